/- Words of math/bits in full (Len64, Mul64, Div64), and the rounding and fitting of any fraction of words: Add and Mul of formats. Conditions: those that each theorem names. -/
import Derived.Test.YtpkphcmnknjbeaaDoorVQ
import Derived.Test.YtpkphcmnknjbeaaDoorVF
import Derived.Lib.Mul64
import Derived.Test.YtpkphcmnknjbeaaDoorVI
set_option linter.unusedSimpArgs false
set_option linter.unusedVariables false
set_option maxRecDepth 100000
namespace Go.V
open Go.Proofs

/-- math/bits' table of lengths. -/
def tabL : List UInt8 := (ByteArray.mk #[0, 1, 2, 2, 3, 3, 3, 3, 4, 4, 4, 4, 4, 4, 4, 4, 5, 5, 5, 5, 5, 5, 5, 5, 5, 5, 5, 5, 5, 5, 5, 5, 6, 6, 6, 6, 6, 6, 6, 6, 6, 6, 6, 6, 6, 6, 6, 6, 6, 6, 6, 6, 6, 6, 6, 6, 6, 6, 6, 6, 6, 6, 6, 6, 7, 7, 7, 7, 7, 7, 7, 7, 7, 7, 7, 7, 7, 7, 7, 7, 7, 7, 7, 7, 7, 7, 7, 7, 7, 7, 7, 7, 7, 7, 7, 7, 7, 7, 7, 7, 7, 7, 7, 7, 7, 7, 7, 7, 7, 7, 7, 7, 7, 7, 7, 7, 7, 7, 7, 7, 7, 7, 7, 7, 7, 7, 7, 7, 8, 8, 8, 8, 8, 8, 8, 8, 8, 8, 8, 8, 8, 8, 8, 8, 8, 8, 8, 8, 8, 8, 8, 8, 8, 8, 8, 8, 8, 8, 8, 8, 8, 8, 8, 8, 8, 8, 8, 8, 8, 8, 8, 8, 8, 8, 8, 8, 8, 8, 8, 8, 8, 8, 8, 8, 8, 8, 8, 8, 8, 8, 8, 8, 8, 8, 8, 8, 8, 8, 8, 8, 8, 8, 8, 8, 8, 8, 8, 8, 8, 8, 8, 8, 8, 8, 8, 8, 8, 8, 8, 8, 8, 8, 8, 8, 8, 8, 8, 8, 8, 8, 8, 8, 8, 8, 8, 8, 8, 8, 8, 8, 8, 8, 8, 8, 8, 8, 8, 8, 8, 8, 8, 8, 8, 8, 8, 8]).data.toList
def leaf85 (v0 v1 : PV) : R :=
  bif leI (0) (IntKind.u8.wrap v0.toInt) && ltI (IntKind.u8.wrap v0.toInt) ((Nat.cast 256 : Int)) then
    some ([AO.pv (Ty.int IntKind.i64) (PV.int IntKind.i64 (IntKind.i64.wrap (v1.toInt + IntKind.i64.wrap (Nat.cast (nth 0 tabL (IntKind.u8.wrap v0.toInt).toNat).toNat : Int))))], [])
  else
    none
def lev7 (v0 v1 : PV) : R := bif leI (256) (v0.toInt) then leaf85 (PV.int IntKind.u64 (v0.toInt.fdiv (2 ^ 8))) (PV.int IntKind.i64 (IntKind.i64.wrap (v1.toInt + 8))) else leaf85 v0 v1
def lev4 (v0 v1 : PV) : R := bif leI (65536) (v0.toInt) then lev7 (PV.int IntKind.u64 (v0.toInt.fdiv (2 ^ 16))) (PV.int IntKind.i64 (IntKind.i64.wrap (v1.toInt + 16))) else lev7 v0 v1
theorem J85_10_l (call : CallF) (k : Nat) (v0 v1 v2 v3 v4 v5 v6 : PV) : J85_10 gate1 call k v0 v1 v2 v3 v4 v5 v6 = leaf85 v0 v1 := by rw [J85_10_eq]; unfold leaf85 tabL; rfl
theorem J85_10s1_l (call : CallF) (k : Nat) (v0 v1 v2 v3 v4 : PV) : J85_10s1 gate1 call k v0 v1 v2 v3 v4 = leaf85 v0 v1 := by rw [J85_10s1_eq]; unfold leaf85 tabL; rfl
theorem J85_10s2_l (call : CallF) (k : Nat) (v0 v1 v2 v3 v4 : PV) : J85_10s2 gate1 call k v0 v1 v2 v3 v4 = leaf85 v0 v1 := by rw [J85_10s2_eq]; unfold leaf85 tabL; rfl
theorem J85_10s3_l (call : CallF) (k : Nat) (v0 v1 v2 : PV) : J85_10s3 gate1 call k v0 v1 v2 = leaf85 v0 v1 := by rw [J85_10s3_eq]; unfold leaf85 tabL; rfl
theorem J85_10s4_l (call : CallF) (k : Nat) (v0 v1 v2 v3 v4 v5 : PV) : J85_10s4 gate1 call k v0 v1 v2 v3 v4 v5 = leaf85 v0 v1 := by rw [J85_10s4_eq]; unfold leaf85 tabL; rfl
theorem J85_10s5_l (call : CallF) (k : Nat) (v0 v1 v2 v3 : PV) : J85_10s5 gate1 call k v0 v1 v2 v3 = leaf85 v0 v1 := by rw [J85_10s5_eq]; unfold leaf85 tabL; rfl
theorem J85_10s6_l (call : CallF) (k : Nat) (v0 v1 v2 v3 : PV) : J85_10s6 gate1 call k v0 v1 v2 v3 = leaf85 v0 v1 := by rw [J85_10s6_eq]; unfold leaf85 tabL; rfl
theorem J85_10s7_l (call : CallF) (k : Nat) (v0 v1 : PV) : J85_10s7 gate1 call k v0 v1 = leaf85 v0 v1 := by rw [J85_10s7_eq]; unfold leaf85 tabL; rfl
theorem J85_7_l (call : CallF) (k : Nat) (v0 v1 v2 v3 v4 : PV) : J85_7 gate1 call k v0 v1 v2 v3 v4 = lev7 v0 v1 := by rw [J85_7_eq, J85_10_l, J85_10s1_l]; rfl
theorem J85_7s1_l (call : CallF) (k : Nat) (v0 v1 v2 : PV) : J85_7s1 gate1 call k v0 v1 v2 = lev7 v0 v1 := by rw [J85_7s1_eq, J85_10s2_l, J85_10s3_l]; rfl
theorem J85_7s2_l (call : CallF) (k : Nat) (v0 v1 v2 v3 : PV) : J85_7s2 gate1 call k v0 v1 v2 v3 = lev7 v0 v1 := by rw [J85_7s2_eq, J85_10s4_l, J85_10s5_l]; rfl
theorem J85_7s3_l (call : CallF) (k : Nat) (v0 v1 : PV) : J85_7s3 gate1 call k v0 v1 = lev7 v0 v1 := by rw [J85_7s3_eq, J85_10s6_l, J85_10s7_l]; rfl
theorem J85_4_l (call : CallF) (k : Nat) (v0 v1 v2 : PV) : J85_4 gate1 call k v0 v1 v2 = lev4 v0 v1 := by rw [J85_4_eq, J85_7_l, J85_7s1_l]; rfl
theorem J85_4s1_l (call : CallF) (k : Nat) (v0 v1 : PV) : J85_4s1 gate1 call k v0 v1 = lev4 v0 v1 := by rw [J85_4s1_eq, J85_7s2_l, J85_7s3_l]; rfl

theorem tab_all : (List.range 256).all (fun v => decide (v < 2 ^ (nth 0 tabL v).toNat) && (decide (v = 0) || (decide (1 ≤ (nth 0 tabL v).toNat) && decide (2 ^ ((nth 0 tabL v).toNat - 1) ≤ v))) && decide ((nth 0 tabL v).toNat ≤ 8)) = true := by decide +kernel
theorem tab_ok {v : Nat} (h : v < 256) : v < 2 ^ (nth 0 tabL v).toNat ∧ (0 < v → 1 ≤ (nth 0 tabL v).toNat ∧ 2 ^ ((nth 0 tabL v).toNat - 1) ≤ v) ∧ (nth 0 tabL v).toNat ≤ 8 := by
  have := List.all_eq_true.1 tab_all v (List.mem_range.2 h)
  simp only [Bool.and_eq_true, Bool.or_eq_true, decide_eq_true_eq] at this
  obtain ⟨⟨h1, h2⟩, h3⟩ := this
  refine ⟨h1, fun hv => ?_, h3⟩
  rcases h2 with h2 | h2
  · omega
  · exact h2

/-- L is the length of x in digits. -/
def LenIs (x L : Nat) : Prop := x < 2 ^ L ∧ (0 < x → 1 ≤ L ∧ 2 ^ (L - 1) ≤ x) ∧ L ≤ 64

theorem fdiv_pow (v e : Nat) : ((v : Int)).fdiv (2 ^ e) = ((v / 2 ^ e : Nat) : Int) := by
  have : ((2 : Int) ^ e) = ((2 ^ e : Nat) : Int) := by simp
  rw [this, Int.fdiv_eq_ediv_of_nonneg _ (Int.natCast_nonneg _)]; simp

theorem leaf_spec {x v n : Nat} (hv : v < 256) (hn : n ≤ 56) (e : v = x / 2 ^ n) (h0 : n = 0 ∨ 0 < v) :
    ∃ L, leaf85 (.int .u64 v) (.int .i64 n) = some ([.pv (.int .i64) (.int .i64 (L : Nat))], []) ∧ LenIs x L := by
  obtain ⟨t1, t2, t3⟩ := tab_ok hv
  refine ⟨n + (nth 0 tabL v).toNat, ?_, ?_, ?_, by omega⟩
  · unfold leaf85
    simp only [PV.toInt]
    have hw : IntKind.u8.wrap (v : Int) = v := by
      show ((v : Int) % 256) = v
      omega
    rw [hw, leI_t (show (0 : Int) ≤ v by omega), ltI_t (show (v : Int) < ((256 : Nat) : Int) by omega), Int.toNat_natCast]
    simp only [Bool.and_self, cond_true]
    rw [wrap_id (n := (((nth 0 tabL v).toNat : Nat) : Int)) (by omega) (by omega), wrap_id (by omega) (by omega), ← Int.natCast_add]
  · have p : 0 < 2 ^ n := Nat.pow_pos (by decide)
    rw [Nat.pow_add, Nat.mul_comm, ← Nat.div_lt_iff_lt_mul p, ← e]; exact t1
  · intro hx
    have p : 0 < 2 ^ n := Nat.pow_pos (by decide)
    by_cases hv0 : 0 < v
    · obtain ⟨a, b⟩ := t2 hv0
      refine ⟨by omega, ?_⟩
      rw [show n + (nth 0 tabL v).toNat - 1 = ((nth 0 tabL v).toNat - 1) + n by omega, Nat.pow_add, ← Nat.le_div_iff_mul_le p, ← e]; exact b
    · rcases h0 with h0 | h0
      · subst h0; rw [Nat.pow_zero, Nat.div_one] at e; omega
      · omega

theorem lev7_spec {x v n : Nat} (hv : v < 65536) (hn : n ≤ 48) (e : v = x / 2 ^ n) (h0 : n = 0 ∨ 0 < v) :
    ∃ L, lev7 (.int .u64 v) (.int .i64 n) = some ([.pv (.int .i64) (.int .i64 (L : Nat))], []) ∧ LenIs x L := by
  unfold lev7
  simp only [PV.toInt]
  by_cases c : 256 ≤ v
  · rw [leI_t (by omega), cond_true, fdiv_pow, wrap_id (by omega) (by omega), show (n : Int) + 8 = ((n + 8 : Nat) : Int) by omega]
    refine leaf_spec (by omega) (by omega) ?_ (by omega)
    rw [e, Nat.div_div_eq_div_mul, ← Nat.pow_add]
  · rw [leI_f (by omega), cond_false]
    exact leaf_spec (by omega) (by omega) e h0

theorem lev4_spec {x v n : Nat} (hv : v < 4294967296) (hn : n ≤ 32) (e : v = x / 2 ^ n) (h0 : n = 0 ∨ 0 < v) :
    ∃ L, lev4 (.int .u64 v) (.int .i64 n) = some ([.pv (.int .i64) (.int .i64 (L : Nat))], []) ∧ LenIs x L := by
  unfold lev4
  simp only [PV.toInt]
  by_cases c : 65536 ≤ v
  · rw [leI_t (by omega), cond_true, fdiv_pow, wrap_id (by omega) (by omega), show (n : Int) + 16 = ((n + 16 : Nat) : Int) by omega]
    refine lev7_spec (by omega) (by omega) ?_ (by omega)
    rw [e, Nat.div_div_eq_div_mul, ← Nat.pow_add]
  · rw [leI_f (by omega), cond_false]
    exact lev7_spec (by omega) (by omega) e h0

theorem len85 {x : Nat} (hx : x < 18446744073709551616) : ∃ L, Ev 85 [.pv (.int .u64) (.int .u64 x)] [.pv (.int .i64) (.int .i64 (L : Nat))] ∧ LenIs x L := by
  by_cases c : 4294967296 ≤ x
  · obtain ⟨L, h1, h2⟩ := lev4_spec (x := x) (v := x / 2 ^ 32) (n := 32) (by omega) (by omega) rfl (by omega)
    refine ⟨L, Ev.of 0 rfl fun k _ => ?_, h2⟩
    rw [R85]
    simp only [PV.toInt]
    rw [leI_t (by omega), cond_true, J85_4_l, fdiv_pow]
    exact h1
  · obtain ⟨L, h1, h2⟩ := lev4_spec (x := x) (v := x) (n := 0) (by omega) (by omega) (by simp) (.inl rfl)
    refine ⟨L, Ev.of 0 rfl fun k _ => ?_, h2⟩
    rw [R85]
    simp only [PV.toInt]
    rw [leI_f (by omega), cond_false, J85_4s1_l]
    exact h1

/-- The leading zeros: how far a number is shifted to begin with a 1. -/
theorem zeros83 {x : Nat} (hx : x < 18446744073709551616) (h0 : 0 < x) : ∃ s, Ev 83 [.pv (.int .u64) (.int .u64 x)] [.pv (.int .i64) (.int .i64 (s : Nat))] ∧ s ≤ 63 ∧ 9223372036854775808 ≤ x * 2 ^ s ∧ x * 2 ^ s < 18446744073709551616 := by
  obtain ⟨L, h, l1, l2, l3⟩ := len85 hx
  obtain ⟨a, b⟩ := l2 h0
  refine ⟨64 - L, Evt.ev h.evt rfl fun k h => ?_, by omega, ?_, ?_⟩
  · rw [R83]
    simp only [PV.cell, PV.cells, List.getD_cons_succ, List.getD_cons_zero, PV.toInt, PV.toStr, PV.toBool, okRes, resPV, Ty.eq, Nat.beq_refl, decide_true, Bool.not_true, Bool.not_false, cond_true, cond_false, h]
    rw [wrap_id (by omega) (by omega), show (64 : Int) - L = ((64 - L : Nat) : Int) by omega]
  · calc 9223372036854775808 = 2 ^ (L - 1) * 2 ^ (64 - L) := by rw [← Nat.pow_add, show L - 1 + (64 - L) = 63 by omega]
      _ ≤ _ := Nat.mul_le_mul_right _ b
  · calc x * 2 ^ (64 - L) < 2 ^ L * 2 ^ (64 - L) := Nat.mul_lt_mul_of_pos_right l1 (Nat.pow_pos (by decide))
      _ = 18446744073709551616 := by rw [← Nat.pow_add, show L + (64 - L) = 64 by omega]
end Go.V

set_option linter.unusedSimpArgs false
set_option linter.unusedVariables false
set_option maxRecDepth 100000
namespace Go.V
open Go.Proofs

theorem uwN {z : Nat} (h : z < 18446744073709551616) : IntKind.u64.wrap (z : Int) = z := uwrap_id (by omega) (by omega)

theorem maskN {a : Nat} (h : a < 18446744073709551616) : (BitVec.ofInt 64 (a : Int) &&& BitVec.ofInt 64 4294967295).toNat = a % 4294967296 := by
  have e1 : BitVec.ofInt 64 (a : Int) = BitVec.ofNat 64 a := by simp
  have e2 : BitVec.ofInt 64 (4294967295 : Int) = BitVec.ofNat 64 4294967295 := by rfl
  rw [e1, e2, BitVec.toNat_and, BitVec.toNat_ofNat, BitVec.toNat_ofNat, Nat.mod_eq_of_lt (by omega), Nat.mod_eq_of_lt (by omega)]
  rw [show (4294967295 : Nat) = 2 ^ 32 - 1 by rfl, Nat.and_two_pow_sub_one_eq_mod]

theorem wrapN {z : Nat} : IntKind.u64.wrap (z : Int) = ((z % 18446744073709551616 : Nat) : Int) := by
  show ((z : Int) % 18446744073709551616) = _
  omega

theorem mul73g {x y : Nat} (hx : x < 18446744073709551616) (hy : y < 18446744073709551616) :
    Ev 73 [.pv (.int .u64) (.int .u64 x), .pv (.int .u64) (.int .u64 y)] [.pv (.int .u64) (.int .u64 (x * y / 18446744073709551616 : Nat)), .pv (.int .u64) (.int .u64 (x * y % 18446744073709551616 : Nat))] := by
  obtain ⟨a1, a2, a3, a4⟩ := Go.Lib.mul64_hi x y hx hy
  have b1 : x / 4294967296 * (y / 4294967296) < 18446744073709551616 := Nat.lt_of_le_of_lt (Go.Lib.half_mul_le (a := x / 4294967296) (b := y / 4294967296) (by omega) (by omega)) (by omega)
  have b2 : x / 4294967296 * (y % 4294967296) < 18446744073709551616 := Nat.lt_of_le_of_lt (Go.Lib.half_mul_le (a := x / 4294967296) (b := y % 4294967296) (by omega) (by omega)) (by omega)
  have b3 : x % 4294967296 * (y / 4294967296) < 18446744073709551616 := Nat.lt_of_le_of_lt (Go.Lib.half_mul_le (a := x % 4294967296) (b := y / 4294967296) (by omega) (by omega)) (by omega)
  have b4 : x * y / 18446744073709551616 < 18446744073709551616 := by
    rw [Nat.div_lt_iff_lt_mul (by decide)]
    exact Nat.mul_lt_mul'' hx hy
  refine Ev.of 0 rfl fun k _ => ?_
  rw [R73]
  simp only [PV.toInt, fdiv_pow, show (2 : Nat) ^ 32 = 4294967296 from rfl]
  rw [maskN hx, maskN hy, uwN (z := x % 4294967296) (by omega), uwN (z := y % 4294967296) (by omega)]
  simp only [← Int.natCast_mul]
  rw [uwN b1, uwN b2, uwN b3, uwN a1]
  simp only [fdiv_pow, show (2 : Nat) ^ 32 = 4294967296 from rfl, ← Int.natCast_add]
  generalize x / 4294967296 * (y / 4294967296) = p11 at *
  generalize x / 4294967296 * (y % 4294967296) = p10 at *
  generalize x % 4294967296 * (y / 4294967296) = p01 at *
  generalize x % 4294967296 * (y % 4294967296) = p00 at *
  generalize hT : p10 + p00 / 4294967296 = T at *
  rw [uwN a2, maskN a2, uwN (z := T % 4294967296) (by omega)]
  simp only [fdiv_pow, show (2 : Nat) ^ 32 = 4294967296 from rfl, ← Int.natCast_add]
  rw [uwN a3]
  simp only [fdiv_pow, show (2 : Nat) ^ 32 = 4294967296 from rfl, ← Int.natCast_add]
  rw [uwN (z := p11 + T / 4294967296) (by omega)]
  simp only [← Int.natCast_add]
  rw [a4, uwN b4, wrapN]

/-- One digit of a long division: the loop ends at the quotient. -/
theorem knuth {y1 y0 u v : Nat} (hy0 : y0 < 4294967296) (hu : u < y1 * 4294967296 + y0) (L : Nat → Nat → Nat → R) (exit : Nat → R)
    (h1 : ∀ n q r, r < 4294967296 → (4294967296 ≤ q ∨ 4294967296 * r + v < q * y0) → q < 18446744073709551616 → L (n + 1) q r = if 4294967296 ≤ r + y1 then exit (q - 1) else L n (q - 1) (r + y1))
    (h2 : ∀ n q r, r < 4294967296 → ¬ (4294967296 ≤ q ∨ 4294967296 * r + v < q * y0) → L (n + 1) q r = exit q)
    (hv : v < 4294967296) (hy1 : 0 < y1) :
    ∀ q r, q * y1 + r = u → r < 4294967296 → (u * 4294967296 + v) / (y1 * 4294967296 + y0) ≤ q → q < 18446744073709551616 → ∀ n, q < n → L n q r = exit ((u * 4294967296 + v) / (y1 * 4294967296 + y0)) := by
  have hy : 0 < y1 * 4294967296 + y0 := by omega
  -- the quotient is below 2^32
  have hq : (u * 4294967296 + v) / (y1 * 4294967296 + y0) < 4294967296 := by
    rw [Nat.div_lt_iff_lt_mul hy]
    have : (u + 1) * 4294967296 ≤ (y1 * 4294967296 + y0) * 4294967296 := Nat.mul_le_mul_right _ hu
    omega
  -- a digit is at most the quotient if it fits
  have fits : ∀ q r, q * y1 + r = u → (q ≤ (u * 4294967296 + v) / (y1 * 4294967296 + y0) ↔ q * y0 ≤ 4294967296 * r + v) := by
    intro q r h
    rw [Nat.le_div_iff_mul_le hy, ← h, Nat.mul_add, ← Nat.mul_assoc, Nat.add_mul]
    generalize q * y1 = a
    generalize q * y0 = b
    omega
  intro q
  induction q with
  | zero =>
    intro r h hr hle _ n hn
    obtain ⟨j, rfl⟩ : ∃ j, n = j + 1 := ⟨n - 1, by omega⟩
    rw [h2 j 0 r hr (by omega)]
    congr 1; exact (Nat.le_zero.1 hle).symm
  | succ q ih =>
    intro r h hr hle hlt n hn
    obtain ⟨j, rfl⟩ : ∃ j, n = j + 1 := ⟨n - 1, by omega⟩
    by_cases c : 4294967296 ≤ q + 1 ∨ 4294967296 * r + v < (q + 1) * y0
    · -- too large
      have hlt2 : (u * 4294967296 + v) / (y1 * 4294967296 + y0) < q + 1 := by
        apply Classical.byContradiction
        intro hc
        have := (fits (q + 1) r h).1 (by omega)
        omega
      have h' : q * y1 + (r + y1) = u := by rw [← h, Nat.add_mul, Nat.one_mul]; omega
      rw [h1 j (q + 1) r hr c hlt, Nat.add_sub_cancel]
      by_cases c2 : 4294967296 ≤ r + y1
      · rw [if_pos c2]
        congr 1
        have : q ≤ (u * 4294967296 + v) / (y1 * 4294967296 + y0) := by
          rw [fits q (r + y1) h']
          have hq2 : q < 4294967296 := by
            apply Classical.byContradiction
            intro hc
            have h3 : 4294967296 * y1 ≤ q * y1 := Nat.mul_le_mul_right _ (by omega)
            omega
          have h4 : q * y0 ≤ 4294967296 * y0 := Nat.mul_le_mul_right _ (by omega)
          have h5 : q * y0 ≤ q * 4294967296 := Nat.mul_le_mul_left _ (by omega)
          omega
        omega
      · rw [if_neg c2]
        exact ih (r + y1) h' (by omega) (by omega) (by omega) j (by omega)
    · rw [h2 j (q + 1) r hr c]
      congr 1
      have := (fits (q + 1) r h).2 (by omega)
      omega
end Go.V

set_option linter.unusedSimpArgs false
set_option linter.unusedVariables false
set_option maxRecDepth 100000
namespace Go.V
open Go.Proofs

theorem ltN {a b : Nat} : ltI (a : Int) (b : Int) = decide (a < b) := ltI_nat
theorem leN' {a b : Nat} : leI (a : Int) (b : Int) = decide (a ≤ b) := by
  by_cases h : a ≤ b
  · rw [leI_t (by omega), decide_eq_true h]
  · rw [leI_f (by omega), decide_eq_false h]

section
variable {k : Nat} {y s y1 y0 : Nat}

/-- The second digit. -/
theorem loop24 (hy1 : 0 < y1) (hy1' : y1 < 4294967296) (hy0 : y0 < 4294967296) {u v : Nat} (hu : u < y1 * 4294967296 + y0) (hv : v < 4294967296) (vy vs q1 : PV) {q r : Nat} (h : q * y1 + r = u) (hr : r < 4294967296)
    (hle : (u * 4294967296 + v) / (y1 * 4294967296 + y0) ≤ q) (hq : q < 18446744073709551616) (n : Nat) (hn : q < n) :
    L78_24 gate1 (EG k) k n vy vs (.int .u64 y1) (.int .u64 y0) (.int .u64 v) q1 (.int .u64 r) (.int .u64 u) (.int .u64 q) =
      J78_28s1 gate1 (EG k) k vy vs (.int .u64 v) q1 (.int .u64 u) (.int .u64 ((u * 4294967296 + v) / (y1 * 4294967296 + y0) : Nat)) := by
  refine knuth hy0 hu (fun n q r => L78_24 gate1 (EG k) k n vy vs (.int .u64 y1) (.int .u64 y0) (.int .u64 v) q1 (.int .u64 r) (.int .u64 u) (.int .u64 q))
    (fun q => J78_28s1 gate1 (EG k) k vy vs (.int .u64 v) q1 (.int .u64 u) (.int .u64 q)) ?_ ?_ hv hy1 q r h hr hle hq n hn
  · intro n q r hr c hq
    have body : J78_25 gate1 (EG k) k n vy vs (.int .u64 y1) (.int .u64 y0) (.int .u64 v) q1 (.int .u64 r) (.int .u64 u) (.int .u64 q) = if 4294967296 ≤ r + y1 then J78_28s1 gate1 (EG k) k vy vs (.int .u64 v) q1 (.int .u64 u) (.int .u64 (q - 1 : Nat)) else L78_24 gate1 (EG k) k n vy vs (.int .u64 y1) (.int .u64 y0) (.int .u64 v) q1 (.int .u64 (r + y1 : Nat)) (.int .u64 u) (.int .u64 (q - 1 : Nat)) := by
      have hq1 : 1 ≤ q := by
        rcases c with c | c
        · omega
        · apply Classical.byContradiction; intro hc
          have : q = 0 := by omega
          subst this; omega
      rw [J78_25_eq, J78_28_eq, J78_28s1_eq]
      simp only [PV.toInt]
      rw [← Int.natCast_add, uwN (z := r + y1) (by omega), show (q : Int) - 1 = ((q - 1 : Nat) : Int) by omega, uwN (z := q - 1) (by omega), show (4294967296 : Int) = ((4294967296 : Nat) : Int) from rfl, leN']
      by_cases c2 : 4294967296 ≤ r + y1
      · rw [decide_eq_true c2, if_pos c2]; rfl
      · rw [decide_eq_false c2, if_neg c2]; rfl
    rw [L78_24_succ, body]
    simp only [PV.toInt]
    by_cases c1 : 4294967296 ≤ q
    · rw [leI_t (by omega), cond_true]
    · rw [leI_f (by omega), cond_false]
      have hqy : q * y0 ≤ 4294967296 * 4294967296 - 4294967296 := by
        have : q * y0 ≤ 4294967295 * 4294967295 := Nat.mul_le_mul (by omega) (by omega)
        omega
      rw [show (4294967296 : Int) * (r : Int) = ((4294967296 * r : Nat) : Int) by omega, uwN (z := 4294967296 * r) (by omega), ← Int.natCast_add, uwN (z := 4294967296 * r + v) (by omega), ← Int.natCast_mul, uwN (z := q * y0) (by omega), ltI_t (by omega), cond_true]
  · intro n q r hr c
    rw [L78_24_succ]
    simp only [PV.toInt]
    have hqy : q * y0 ≤ 4294967296 * 4294967296 - 4294967296 := by
      have : q * y0 ≤ 4294967295 * 4294967295 := Nat.mul_le_mul (by omega) (by omega)
      omega
    rw [leI_f (by omega), cond_false, show (4294967296 : Int) * (r : Int) = ((4294967296 * r : Nat) : Int) by omega, uwN (z := 4294967296 * r) (by omega), ← Int.natCast_add, uwN (z := 4294967296 * r + v) (by omega), ← Int.natCast_mul, uwN (z := q * y0) (by omega), ltI_f (by omega), cond_false]

/-- The first digit. -/
theorem loop17 (hy1 : 0 < y1) (hy1' : y1 < 4294967296) (hy0 : y0 < 4294967296) {u v : Nat} (hu : u < y1 * 4294967296 + y0) (hv : v < 4294967296) (vy vs v6 : PV) {q r : Nat} (h : q * y1 + r = u) (hr : r < 4294967296)
    (hle : (u * 4294967296 + v) / (y1 * 4294967296 + y0) ≤ q) (hq : q < 18446744073709551616) (n : Nat) (hn : q < n) :
    L78_17 gate1 (EG k) k n vy vs (.int .u64 y1) (.int .u64 y0) (.int .u64 u) (.int .u64 v) v6 (.int .u64 q) (.int .u64 r) =
      J78_21s1 gate1 (EG k) k vy vs (.int .u64 y1) (.int .u64 y0) (.int .u64 u) (.int .u64 v) v6 (.int .u64 ((u * 4294967296 + v) / (y1 * 4294967296 + y0) : Nat)) := by
  refine knuth hy0 hu (fun n q r => L78_17 gate1 (EG k) k n vy vs (.int .u64 y1) (.int .u64 y0) (.int .u64 u) (.int .u64 v) v6 (.int .u64 q) (.int .u64 r))
    (fun q => J78_21s1 gate1 (EG k) k vy vs (.int .u64 y1) (.int .u64 y0) (.int .u64 u) (.int .u64 v) v6 (.int .u64 q)) ?_ ?_ hv hy1 q r h hr hle hq n hn
  · intro n q r hr c hq
    have body : J78_18 gate1 (EG k) k n vy vs (.int .u64 y1) (.int .u64 y0) (.int .u64 u) (.int .u64 v) v6 (.int .u64 q) (.int .u64 r) = if 4294967296 ≤ r + y1 then J78_21s1 gate1 (EG k) k vy vs (.int .u64 y1) (.int .u64 y0) (.int .u64 u) (.int .u64 v) v6 (.int .u64 (q - 1 : Nat)) else L78_17 gate1 (EG k) k n vy vs (.int .u64 y1) (.int .u64 y0) (.int .u64 u) (.int .u64 v) v6 (.int .u64 (q - 1 : Nat)) (.int .u64 (r + y1 : Nat)) := by
      have hq1 : 1 ≤ q := by
        rcases c with c | c
        · omega
        · apply Classical.byContradiction; intro hc
          have : q = 0 := by omega
          subst this; omega
      rw [J78_18_eq, J78_21_eq, J78_21s1_eq]
      simp only [PV.toInt]
      rw [← Int.natCast_add, uwN (z := r + y1) (by omega), show (q : Int) - 1 = ((q - 1 : Nat) : Int) by omega, uwN (z := q - 1) (by omega)]
      by_cases c2 : 4294967296 ≤ r + y1
      · rw [leI_t (show (4294967296 : Int) ≤ ((r + y1 : Nat) : Int) by omega), if_pos c2, cond_true]
      · rw [leI_f (show ((r + y1 : Nat) : Int) < 4294967296 by omega), if_neg c2, cond_false]
    rw [L78_17_succ, body]
    simp only [PV.toInt]
    by_cases c1 : 4294967296 ≤ q
    · rw [leI_t (by omega), cond_true]
    · rw [leI_f (by omega), cond_false]
      have hqy : q * y0 ≤ 4294967296 * 4294967296 - 4294967296 := by
        have : q * y0 ≤ 4294967295 * 4294967295 := Nat.mul_le_mul (by omega) (by omega)
        omega
      rw [show (4294967296 : Int) * (r : Int) = ((4294967296 * r : Nat) : Int) by omega, uwN (z := 4294967296 * r) (by omega), ← Int.natCast_add, uwN (z := 4294967296 * r + v) (by omega), ← Int.natCast_mul, uwN (z := q * y0) (by omega), ltI_t (by omega), cond_true]
  · intro n q r hr c
    rw [L78_17_succ]
    simp only [PV.toInt]
    have hqy : q * y0 ≤ 4294967296 * 4294967296 - 4294967296 := by
      have : q * y0 ≤ 4294967295 * 4294967295 := Nat.mul_le_mul (by omega) (by omega)
      omega
    rw [leI_f (by omega), cond_false, show (4294967296 : Int) * (r : Int) = ((4294967296 * r : Nat) : Int) by omega, uwN (z := 4294967296 * r) (by omega), ← Int.natCast_add, uwN (z := 4294967296 * r + v) (by omega), ← Int.natCast_mul, uwN (z := q * y0) (by omega), ltI_f (by omega), cond_false]
end

/-- What a difference is that is below a word's end. -/
theorem subN {a b : Int} {z : Nat} (hz : z < 18446744073709551616) (h : (a - b - z) % 18446744073709551616 = 0) : IntKind.u64.wrap (IntKind.u64.wrap a - IntKind.u64.wrap b) = z := by
  show ((a % 18446744073709551616 - b % 18446744073709551616) % 18446744073709551616) = _
  omega
end Go.V

set_option linter.unusedSimpArgs false
set_option linter.unusedVariables false
set_option maxRecDepth 100000
namespace Go.V
open Go.Proofs

theorem orN {a b : Nat} (ha : a < 18446744073709551616) (hb : b < 18446744073709551616) : (BitVec.ofInt 64 (a : Int) ||| BitVec.ofInt 64 (b : Int)).toNat = a ||| b := by
  have e1 : BitVec.ofInt 64 (a : Int) = BitVec.ofNat 64 a := by simp
  have e2 : BitVec.ofInt 64 (b : Int) = BitVec.ofNat 64 b := by simp
  rw [e1, e2, BitVec.toNat_or, BitVec.toNat_ofNat, BitVec.toNat_ofNat, Nat.mod_eq_of_lt (by omega), Nat.mod_eq_of_lt (by omega)]

theorem tdivN (a b : Nat) : ((a : Int)).tdiv (b : Int) = ((a / b : Nat) : Int) := by
  rw [Int.tdiv_eq_ediv_of_nonneg (Int.natCast_nonneg a)]; simp

theorem powI (e : Nat) : ((2 : Int) ^ e) = ((2 ^ e : Nat) : Int) := by simp

theorem subN' {a b : Nat} (h : b ≤ a) (ha : a - b < 18446744073709551616) : IntKind.u64.wrap (IntKind.u64.wrap (a : Int) - IntKind.u64.wrap (b : Int)) = ((a - b : Nat) : Int) :=
  subN ha (by omega)

theorem est_le {Y : Nat} (hY : 2147483648 ≤ Y / 4294967296) (w v : Nat) (hv : v < 4294967296) : (w * 4294967296 + v) / (Y / 4294967296 * 4294967296 + Y % 4294967296) ≤ w / (Y / 4294967296) := by
  rw [Nat.le_div_iff_mul_le (by omega)]
  have h1 := Nat.div_mul_le_self (w * 4294967296 + v) (Y / 4294967296 * 4294967296 + Y % 4294967296)
  generalize (w * 4294967296 + v) / (Y / 4294967296 * 4294967296 + Y % 4294967296) = q at h1 ⊢
  rw [Nat.mul_add, ← Nat.mul_assoc] at h1
  generalize q * (Y / 4294967296) = a at h1 ⊢
  generalize q * (Y % 4294967296) = b at h1
  omega

theorem est_start {Y : Nat} (hY : 2147483648 ≤ Y / 4294967296) (hY2 : Y / 4294967296 < 4294967296) (w : Nat) : w / (Y / 4294967296) * (Y / 4294967296) + (w - w / (Y / 4294967296) * (Y / 4294967296)) = w ∧ (w - w / (Y / 4294967296) * (Y / 4294967296)) < 4294967296 ∧ w / (Y / 4294967296) * (Y / 4294967296) ≤ w := by
  have h1 := Nat.div_mul_le_self w (Y / 4294967296)
  have h2 := Nat.div_add_mod w (Y / 4294967296)
  have h3 := Nat.mod_lt w (show 0 < Y / 4294967296 by omega)
  rw [Nat.mul_comm] at h2
  generalize w / (Y / 4294967296) * (Y / 4294967296) = a at h1 h2 ⊢
  generalize w % (Y / 4294967296) = b at h2 h3
  omega

theorem two_digits' {u L Y B : Nat} (hY : 0 < Y) : (u * (B * B) + L) / Y = (u * B + L / B) / Y * B + ((u * B + L / B) % Y * B + L % B) / Y ∧
      (u * (B * B) + L) % Y = ((u * B + L / B) % Y * B + L % B) % Y := by
  rw [Nat.div_mod_unique hY]
  have dm1 := Nat.div_add_mod (u * B + L / B) Y
  have dm0 := Nat.div_add_mod ((u * B + L / B) % Y * B + L % B) Y
  have dl := Nat.div_add_mod L B
  refine ⟨?_, Nat.mod_lt _ hY⟩
  generalize (u * B + L / B) / Y = q1 at dm1 dm0 ⊢
  generalize (u * B + L / B) % Y = u2 at dm1 dm0 ⊢
  generalize (u2 * B + L % B) / Y = q0 at dm0 ⊢
  generalize (u2 * B + L % B) % Y = r at dm0 ⊢
  generalize L / B = x at *
  generalize L % B = z at *
  grind

theorem two_digits {u L Y : Nat} (hY : 0 < Y) : (u * 18446744073709551616 + L) / Y = (u * 4294967296 + L / 4294967296) / Y * 4294967296 + ((u * 4294967296 + L / 4294967296) % Y * 4294967296 + L % 4294967296) / Y ∧
      (u * 18446744073709551616 + L) % Y = ((u * 4294967296 + L / 4294967296) % Y * 4294967296 + L % 4294967296) % Y := two_digits' (B := 4294967296) hY

theorem digit_sub {u v q Y r : Nat} (h : u * 4294967296 + v = q * Y + r) (hr : r < 18446744073709551616) :
    IntKind.u64.wrap (IntKind.u64.wrap (IntKind.u64.wrap ((u : Int) * 4294967296) + (v : Int)) - IntKind.u64.wrap ((q : Int) * (Y : Int))) = (r : Int) := by
  rw [← Int.natCast_mul]
  generalize q * Y = a at h
  show (((u : Int) * 4294967296 % 18446744073709551616 + (v : Int)) % 18446744073709551616 - (a : Int) % 18446744073709551616) % 18446744073709551616 = (r : Int)
  omega

theorem digit_lt {w v Y : Nat} (hw : w < Y) (hv : v < 4294967296) : (w * 4294967296 + v) / Y < 4294967296 := by
  rw [Nat.div_lt_iff_lt_mul (by omega)]
  have : (w + 1) * 4294967296 ≤ Y * 4294967296 := Nat.mul_le_mul_right _ hw
  omega

/-- The second digit, and what is left. -/
theorem tail78 {k s Y u v1 v0 q1 u2 : Nat} (hk : 18446744073709551616 ≤ k) (n2 : Y < 18446744073709551616) (y1 : 2147483648 ≤ Y / 4294967296) (hs : s ≤ 63) (hv : v0 < 4294967296) (hq : q1 < 4294967296) (hu2 : u2 < Y)
    (h : u * 4294967296 + v1 = q1 * Y + u2) :
    J78_21s1 gate1 (EG k) k (.int .u64 Y) (.int .u64 s) (.int .u64 (Y / 4294967296 : Nat)) (.int .u64 (Y % 4294967296 : Nat)) (.int .u64 u) (.int .u64 v1) (.int .u64 v0) (.int .u64 q1) =
      some ([.pv (.int .u64) (.int .u64 (q1 * 4294967296 + (u2 * 4294967296 + v0) / Y : Nat)), .pv (.int .u64) (.int .u64 ((u2 * 4294967296 + v0) % Y / 2 ^ s : Nat))], []) := by
  have hms : min (s : Int).toNat 64 = s := by rw [Int.toNat_natCast, Nat.min_eq_left (by omega)]
  have y1' : Y / 4294967296 < 4294967296 := by omega
  have y0' : Y % 4294967296 < 4294967296 := by omega
  have eY : Y / 4294967296 * 4294967296 + Y % 4294967296 = Y := Nat.div_add_mod' Y _
  have st := est_start y1 y1' u2
  have wq : u2 / (Y / 4294967296) < 18446744073709551616 := Nat.lt_of_le_of_lt (Nat.div_le_self _ _) (by omega)
  have e0 := est_le y1 u2 v0 hv
  have l24 := fun (vy vs q1 : PV) => loop24 (k := k) (y1 := Y / 4294967296) (y0 := Y % 4294967296) (by omega) y1' y0' (by rw [eY]; exact hu2) hv vy vs q1 st.1 st.2.1 e0 wq
  rw [eY] at l24
  have d0 : u2 * 4294967296 + v0 = (u2 * 4294967296 + v0) / Y * Y + (u2 * 4294967296 + v0) % Y := (Nat.div_add_mod' _ _).symm
  have hr : (u2 * 4294967296 + v0) % Y < 18446744073709551616 := Nat.lt_trans (Nat.mod_lt _ (by omega)) n2
  have q0lt := digit_lt hu2 hv
  rw [J78_21s1_eq]
  simp only [PV.toInt]
  have yne : ((Y / 4294967296 : Nat) : Int) ≠ 0 := by clear h hk e0 d0 st l24; omega
  rw [digit_sub h (Nat.lt_trans hu2 n2), eqI_f yne]
  simp only [cond_false]
  rw [tdivN, uwN wq, ← Int.natCast_mul, uwN (z := u2 / (Y / 4294967296) * (Y / 4294967296)) (Nat.lt_of_le_of_lt st.2.2 (by omega)), ← Int.ofNat_sub st.2.2, uwN (z := u2 - u2 / (Y / 4294967296) * (Y / 4294967296)) (Nat.lt_trans st.2.1 (by decide))]
  rw [l24 _ _ _ k (Nat.lt_of_lt_of_le wq hk), J78_28s1_eq]
  simp only [PV.toInt]
  rw [digit_sub d0 hr, hms, ltI_f (show (0 : Int) ≤ s by omega), fdiv_pow]
  simp only [cond_false]
  generalize (u2 * 4294967296 + v0) / Y = q0 at q0lt ⊢
  rw [show (q1 : Int) * 4294967296 = ((q1 * 4294967296 : Nat) : Int) by omega, uwN (z := q1 * 4294967296) (by omega), ← Int.natCast_add, uwN (z := q1 * 4294967296 + q0) (by omega)]

/-- Long division of two words by one. -/
theorem div78g {hi lo d : Nat} (hhi : hi < d) (hlo : lo < 18446744073709551616) (hd : d < 18446744073709551616) :
    Ev 78 [.pv (.int .u64) (.int .u64 hi), .pv (.int .u64) (.int .u64 lo), .pv (.int .u64) (.int .u64 d)]
      [.pv (.int .u64) (.int .u64 ((hi * 18446744073709551616 + lo) / d : Nat)), .pv (.int .u64) (.int .u64 ((hi * 18446744073709551616 + lo) % d : Nat))] := by
  by_cases h0 : hi = 0
  · subst h0
    rw [Nat.zero_mul, Nat.zero_add]
    exact div78 hlo hd (by omega)
  obtain ⟨s, e83, hs, n1, n2⟩ := zeros83 hd (by omega)
  have ps : 0 < 2 ^ s := Nat.pow_pos (by decide)
  have ps64 : 2 ^ s * 2 ^ (64 - s) = 18446744073709551616 := by rw [← Nat.pow_add, show s + (64 - s) = 64 by omega]
  have pr : 0 < 2 ^ (64 - s) := Nat.pow_pos (by decide)
  -- the parts
  have hw : lo / 2 ^ (64 - s) < 2 ^ s := by rw [Nat.div_lt_iff_lt_mul pr, ps64]; exact hlo
  have hu : hi * 2 ^ s + lo / 2 ^ (64 - s) < d * 2 ^ s := by
    have : (hi + 1) * 2 ^ s ≤ d * 2 ^ s := Nat.mul_le_mul_right _ hhi
    rw [Nat.add_mul, Nat.one_mul] at this
    omega
  have hlow : lo * 2 ^ s = lo / 2 ^ (64 - s) * 18446744073709551616 + lo * 2 ^ s % 18446744073709551616 := by
    have e : lo * 2 ^ s / 18446744073709551616 = lo / 2 ^ (64 - s) := by
      rw [← ps64, Nat.mul_comm (2 ^ s), Nat.mul_div_mul_right _ _ ps]
    have := Nat.div_add_mod (lo * 2 ^ s) 18446744073709551616
    rw [e, Nat.mul_comm] at this
    omega
  have hA : (hi * 18446744073709551616 + lo) * 2 ^ s = (hi * 2 ^ s + lo / 2 ^ (64 - s)) * 18446744073709551616 + lo * 2 ^ s % 18446744073709551616 := by
    rw [Nat.add_mul, Nat.add_mul, Nat.mul_right_comm]; omega
  have qd : (hi * 18446744073709551616 + lo) / d = (hi * 18446744073709551616 + lo) * 2 ^ s / (d * 2 ^ s) := (Nat.mul_div_mul_right _ _ ps).symm
  have qm : (hi * 18446744073709551616 + lo) % d = (hi * 18446744073709551616 + lo) * 2 ^ s % (d * 2 ^ s) / 2 ^ s := by
    rw [Nat.mul_mod_mul_right, Nat.mul_div_cancel _ ps]
  have hor : hi * 2 ^ s ||| lo / 2 ^ (64 - s) = hi * 2 ^ s + lo / 2 ^ (64 - s) := by
    rw [Nat.mul_comm, Nat.two_pow_add_eq_or_of_lt hw]
  have hsh : ∀ a : Nat, IntKind.u64.wrap ((a : Int) * 2 ^ min (IntKind.u64.wrap (s : Int)).toNat 64) = ((a * 2 ^ s % 18446744073709551616 : Nat) : Int) := by
    intro a
    rw [uwN (z := s) (by omega), Int.toNat_natCast, Nat.min_eq_left (by omega), powI, ← Int.natCast_mul, wrapN]
  have hmn : min (IntKind.u64.wrap (64 - IntKind.u64.wrap (s : Int))).toNat 64 = 64 - s := by
    rw [uwN (z := s) (by omega), show (64 : Int) - (s : Int) = ((64 - s : Nat) : Int) by omega, uwN (z := 64 - s) (by omega), Int.toNat_natCast, Nat.min_eq_left (by omega)]
  have hms : min (s : Int).toNat 64 = s := by rw [Int.toNat_natCast, Nat.min_eq_left (by omega)]
  have hhis : hi * 2 ^ s < 18446744073709551616 := by omega
  have hlw : lo / 2 ^ (64 - s) < 18446744073709551616 := Nat.lt_of_le_of_lt (Nat.div_le_self _ _) hlo
  rw [qd, qm, hA]
  -- names
  generalize hi * 2 ^ s + lo / 2 ^ (64 - s) = u at *
  generalize hY : d * 2 ^ s = Y at *
  generalize hLo : lo * 2 ^ s % 18446744073709551616 = L at *
  have hL : L < 18446744073709551616 := by rw [← hLo]; exact Nat.mod_lt _ (by decide)
  have y1 : 2147483648 ≤ Y / 4294967296 := by omega
  have y1' : Y / 4294967296 < 4294967296 := by omega
  have y0' : Y % 4294967296 < 4294967296 := by omega
  have eY : Y / 4294967296 * 4294967296 + Y % 4294967296 = Y := by omega
  have v1 : L / 4294967296 < 4294967296 := by omega
  have v0 : L % 4294967296 < 4294967296 := by omega
  -- the first digit
  have hY0 : 0 < Y := by omega
  have hm2 : (u * 4294967296 + L / 4294967296) % Y < Y := Nat.mod_lt _ hY0
  have hr0 : ((u * 4294967296 + L / 4294967296) % Y * 4294967296 + L % 4294967296) % Y < Y := Nat.mod_lt _ hY0
  have q1lt : (u * 4294967296 + L / 4294967296) / Y < 4294967296 := by
    rw [Nat.div_lt_iff_lt_mul hY0]
    have : (u + 1) * 4294967296 ≤ Y * 4294967296 := Nat.mul_le_mul_right _ hu
    omega
  have q0lt : ((u * 4294967296 + L / 4294967296) % Y * 4294967296 + L % 4294967296) / Y < 4294967296 := by
    rw [Nat.div_lt_iff_lt_mul hY0]
    have : ((u * 4294967296 + L / 4294967296) % Y + 1) * 4294967296 ≤ Y * 4294967296 := Nat.mul_le_mul_right _ hm2
    omega
  have est := fun (w v : Nat) (hv : v < 4294967296) => est_le y1 w v hv
  have start := est_start y1 y1'
  have wq : ∀ w : Nat, w < Y → w / (Y / 4294967296) < 18446744073709551616 := fun w hw => Nat.lt_of_le_of_lt (Nat.div_le_self _ _) (by omega)
  have e1 := est u (L / 4294967296) v1
  have l17 := fun (k : Nat) (vy vs v6 : PV) => loop17 (k := k) (y1 := Y / 4294967296) (y0 := Y % 4294967296) (by omega) y1' y0' (by rw [eY]; exact hu) v1 vy vs v6 (start u).1 (start u).2.1 e1 (wq u hu)
  rw [eY] at l17
  -- the quotient and the rest
  have hq := two_digits (u := u) (L := L) hY0
  rw [hq.1, hq.2]
  refine Evt.ev (e83.evt.and ⟨18446744073709551616, fun k hk => hk⟩) rfl fun k ⟨h1, hk⟩ => ?_
  rw [R78]
  simp only [PV.toInt, J78_3_eq, J78_5_eq]
  rw [eqI_f (show (d : Int) ≠ 0 by omega), leI_f (show (hi : Int) < d by omega), eqI_f (show (hi : Int) ≠ 0 by omega)]
  simp only [cond_false]
  rw [J78_7_eq]
  simp only [h1, PV.cell, PV.cells, List.getD_cons_succ, List.getD_cons_zero, PV.toInt, PV.toStr, PV.toBool, okRes, resPV, Ty.eq, Nat.beq_refl, decide_true, Bool.not_true, Bool.not_false, cond_true, cond_false, hsh, hmn, fdiv_pow]
  rw [Nat.mod_eq_of_lt hhis, orN hhis hlw, hor, uwN (z := u) (by omega), Nat.mod_eq_of_lt (a := d * 2 ^ s) (by rw [hY]; exact n2), hY, hLo]
  rw [maskN (a := Y) n2, maskN hL]
  simp only [show (2 : Nat) ^ 32 = 4294967296 from rfl, tdivN]
  rw [uwN (z := s) (by omega), ltI_f (show (0 : Int) ≤ s by omega), ltI_f (show (0 : Int) ≤ IntKind.u64.wrap (64 - (s : Int)) by rw [show (64 : Int) - (s : Int) = ((64 - s : Nat) : Int) by omega, uwN (z := 64 - s) (by omega)]; omega), eqI_f (show ((Y / 4294967296 : Nat) : Int) ≠ 0 by omega)]
  simp only [cond_false]
  rw [uwN (z := Y % 4294967296) (by omega), uwN (z := L % 4294967296) (by omega), uwN (wq u hu), ← Int.natCast_mul]
  rw [uwN (z := u / (Y / 4294967296) * (Y / 4294967296)) (by have := (start u).2.2; omega)]
  rw [← Int.ofNat_sub (start u).2.2, uwN (z := u - u / (Y / 4294967296) * (Y / 4294967296)) (Nat.lt_trans (start u).2.1 (by decide))]
  rw [l17 k _ _ _ k (Nat.lt_of_lt_of_le (wq u hu) hk)]
  exact tail78 hk n2 y1 hs v0 q1lt hm2 (Nat.div_add_mod' _ _).symm
end Go.V

set_option linter.unusedSimpArgs false
set_option linter.unusedVariables false
set_option maxRecDepth 100000
namespace Go.V
open Go.Proofs

theorem add72g {a : Nat} (h : a < 18446744073709551616) (k : Nat) :
    EG k 72 [.pv (.int .u64) (.int .u64 a), .pv (.int .u64) (.int .u64 1), .pv (.int .u64) (.int .u64 0)] = some ([.pv (.int .u64) (.int .u64 ((a + 1) % 18446744073709551616 : Nat)), .pv (.int .u64) (.int .u64 ((a + 1) / 18446744073709551616 : Nat))], []) := by
  have hb : add64B 72 72 [.pv (.int .u64) (.int .u64 a), .pv (.int .u64) (.int .u64 1), .pv (.int .u64) (.int .u64 0)] = some ([.pv (.int .u64) (.int .u64 ((a + 1) % 18446744073709551616 : Nat)), .pv (.int .u64) (.int .u64 ((a + 1) / 18446744073709551616 : Nat))], []) := by
    simp only [add64B, Nat.beq_refl, cond_true, PV.toInt]
    rw [leI_t (show (0 : Int) ≤ a by omega), leI_t (show (0 : Int) ≤ 1 by omega), leI_t (show (0 : Int) ≤ 0 by omega)]
    have e1 : ((a : Int) + 1 + 0) % 18446744073709551616 = (((a + 1) % 18446744073709551616 : Nat) : Int) := by omega
    have e2 : ((a : Int) + 1 + 0) / 18446744073709551616 = (((a + 1) / 18446744073709551616 : Nat) : Int) := by omega
    rw [e1, e2]; rfl
  cases k with
  | zero => exact hb
  | succ k => unfold EG; simp only [evG, hb]

/-- A whole number of two words with its sign. -/
def fin63 (m : Bool) (Z : Nat) : R := some ([.pv (.st 71) (.agg [.bool (m && !eqI (Z : Nat) 0), .int .u64 (Z / 18446744073709551616 : Nat), .int .u64 (Z % 18446744073709551616 : Nat)])], [])

theorem fin63_eq (m : Bool) (Z : Nat) : (bif m then
      bif !eqI ((Z / 18446744073709551616 : Nat) : Int) 0 then
        some ([AO.pv (Ty.st 71) (PV.agg [PV.bool true, .int .u64 (Z / 18446744073709551616 : Nat), .int .u64 (Z % 18446744073709551616 : Nat)])], [])
      else
        some ([AO.pv (Ty.st 71) (PV.agg [PV.bool !eqI ((Z % 18446744073709551616 : Nat) : Int) 0, .int .u64 (Z / 18446744073709551616 : Nat), .int .u64 (Z % 18446744073709551616 : Nat)])], [])
    else
      some ([AO.pv (Ty.st 71) (PV.agg [PV.bool false, .int .u64 (Z / 18446744073709551616 : Nat), .int .u64 (Z % 18446744073709551616 : Nat)])], [])) = fin63 m Z := by
  unfold fin63
  cases m with
  | false => rfl
  | true =>
    by_cases h : Z / 18446744073709551616 = 0
    · rw [eqI_t (show ((Z / 18446744073709551616 : Nat) : Int) = 0 by omega), Nat.mod_eq_of_lt (by omega)]; rfl
    · rw [eqI_f (show ((Z / 18446744073709551616 : Nat) : Int) ≠ 0 by omega), eqI_f (show (Z : Int) ≠ 0 by omega)]; rfl

section
variable {m : Bool} {q : Nat}

theorem up63 (k : Nat) (v1 v2 v3 v4 v5 v9 v10 w11 w12 : PV) : J63_12 gate1 (EG k) k (.bool m) v1 v2 v3 v4 v5 (.int .u64 ((q + 1) / 18446744073709551616 : Nat)) (.int .u64 ((q + 1) % 18446744073709551616 : Nat)) v9 v10 w11 w12 = fin63 m (q + 1) := by
  rw [J63_12_eq]; simp only [PV.toBool, PV.toInt]; exact fin63_eq m (q + 1)

theorem stay63 (k : Nat) (v1 v2 v3 v4 v5 v9 v10 : PV) : J63_12s1 gate1 (EG k) k (.bool m) v1 v2 v3 v4 v5 (.int .u64 (q / 18446744073709551616 : Nat)) (.int .u64 (q % 18446744073709551616 : Nat)) v9 v10 = fin63 m q := by
  rw [J63_12s1_eq]; simp only [PV.toBool, PV.toInt]; exact fin63_eq m q

theorem carry63 (hq : q < 340282366920938463426481119284349108224) : IntKind.u64.wrap (((q / 18446744073709551616 : Nat) : Int) + (((q % 18446744073709551616 + 1) / 18446744073709551616 : Nat) : Int)) = ((((q + 1) / 18446744073709551616 : Nat)) : Int) ∧
    ((q % 18446744073709551616 + 1) % 18446744073709551616 : Nat) = ((q + 1) % 18446744073709551616 : Nat) := by
  constructor
  · rw [← Int.natCast_add, uwN (z := q / 18446744073709551616 + (q % 18446744073709551616 + 1) / 18446744073709551616) (by omega)]
    congr 1; omega
  · omega

theorem j63_8 (hq : q < 340282366920938463426481119284349108224) (k : Nat) (b : Bool) (v1 v2 v3 v4 v5 v9 v10 v11 : PV) : J63_8 gate1 (EG k) k (.bool m) v1 v2 v3 v4 v5 (.int .u64 (q / 18446744073709551616 : Nat)) (.int .u64 (q % 18446744073709551616 : Nat)) (.bool b) v9 v10 v11 = fin63 m (q + (bif b then 1 else 0)) := by
  rw [J63_8_eq]
  simp only [PV.toBool]
  cases b with
  | false => exact stay63 k _ _ _ _ _ _ _
  | true =>
    have ha := add72g (a := q % 18446744073709551616) (by omega) k
    obtain ⟨c1, c2⟩ := carry63 hq
    simp only [ha, cond_true, tys49, okMany, okTup, Ty.eq, decide_true, Bool.and_true, Bool.true_and, resAt, nth, aoPV, Nat.beq, Bool.not_false, PV.toInt, c1]
    rw [c2]
    exact up63 k _ _ _ _ _ _ _ _ _

theorem j63_8s1 (hq : q < 340282366920938463426481119284349108224) (k : Nat) (b : Bool) (v1 v2 v3 v4 v5 v9 v10 v11 : PV) : J63_8s1 gate1 (EG k) k (.bool m) v1 v2 v3 v4 v5 (.int .u64 (q / 18446744073709551616 : Nat)) (.int .u64 (q % 18446744073709551616 : Nat)) (.bool b) v9 v10 v11 = fin63 m (q + (bif b then 1 else 0)) := by
  rw [J63_8s1_eq]
  simp only [PV.toBool]
  cases b with
  | false => exact stay63 k _ _ _ _ _ _ _
  | true =>
    have ha := add72g (a := q % 18446744073709551616) (by omega) k
    obtain ⟨c1, c2⟩ := carry63 hq
    simp only [ha, cond_true, tys49, okMany, okTup, Ty.eq, decide_true, Bool.and_true, Bool.true_and, resAt, nth, aoPV, Nat.beq, Bool.not_false, PV.toInt, c1]
    rw [c2]
    exact up63 k _ _ _ _ _ _ _ _ _

theorem j63_8s2 (hq : q < 340282366920938463426481119284349108224) (k : Nat) (v1 v2 v3 v4 v5 v9 v10 : PV) : J63_8s2 gate1 (EG k) k (.bool m) v1 v2 v3 v4 v5 (.int .u64 (q / 18446744073709551616 : Nat)) (.int .u64 (q % 18446744073709551616 : Nat)) (.bool false) v9 v10 = fin63 m q := by
  rw [J63_8s2_eq]
  simp only [PV.toBool, cond_false]
  exact stay63 k _ _ _ _ _ _ _

/-- Rounding, from what scaling gives. -/
theorem rounded63_w (hq : q < 340282366920938463426481119284349108224) {n d : Nat} {s h : Int} {round : ByteArray} (hs : Ev 71 [.pv (.st 51) (xv m n d), .pv (.int .i64) (.int .i64 s)] [.pv (.int .u64) (.int .u64 (q / 18446744073709551616 : Nat)), .pv (.int .u64) (.int .u64 (q % 18446744073709551616 : Nat)), .pv (.int .i64) (.int .i64 h)]) :
    Ev 63 [.pv (.st 51) (xv m n d), .pv (.int .i64) (.int .i64 s), .pv .str (.str round)] [.pv (.st 71) (.agg [.bool (m && !eqI (q + (bif upB m round q h then 1 else 0) : Nat) 0), .int .u64 ((q + (bif upB m round q h then 1 else 0)) / 18446744073709551616 : Nat), .int .u64 ((q + (bif upB m round q h then 1 else 0)) % 18446744073709551616 : Nat)])] := by
  refine Evt.ev hs.evt rfl fun k h1 => ?_
  show _ = fin63 m (q + (bif upB m round q h then 1 else 0))
  simp only [xv] at h1 ⊢
  rw [R63]
  have ho : (q % 18446744073709551616) % 2 = q % 2 := by omega
  simp only [PV.cell, PV.cells, List.getD_cons_succ, List.getD_cons_zero, PV.toInt, PV.toStr, h1, tys493, tys49, okMany, okTup, Ty.eq, decide_true, Bool.and_true, Bool.true_and, resAt, nth, aoPV, Nat.beq, Bool.not_false, cond_true, PV.toBool, odd1, ho, upB, j63_8 hq, j63_8s1 hq, j63_8s2 hq]
  cases (round.data.toList == (ByteArray.mk #[102, 108, 111, 111, 114]).data.toList) with
  | true => cases m <;> simp only [cond_true, cond_false, Bool.true_and, Bool.false_and]
  | false =>
    cases (round.data.toList == (ByteArray.mk #[110, 101, 97, 114]).data.toList) with
    | false => simp only [cond_true, cond_false, Nat.add_zero]
    | true =>
      cases eqI h 3 <;> cases eqI h 2 <;> simp only [cond_true, cond_false, Bool.true_or, Bool.false_or, Bool.true_and, Bool.false_and]
end

theorem halves77w {r dh dl : Nat} (hr : r < 9223372036854775808) (h0 : 0 < dh) (hd : dh < 18446744073709551616) (hl : dl < 18446744073709551616) :
    Ev 77 [.pv (.int .u64) (.int .u64 0), .pv (.int .u64) (.int .u64 r), .pv (.int .u64) (.int .u64 dh), .pv (.int .u64) (.int .u64 dl)] [.pv (.int .i64) (.int .i64 (half r (dh * 18446744073709551616 + dl)))] := by
  have e1 : (r : Int).fdiv (2 ^ 63) = 0 := by
    rw [Int.fdiv_eq_ediv_of_nonneg _ (by decide)]
    omega
  have e2 : IntKind.u64.wrap ((0 : Int) * 2 ^ 1) = 0 := by decide
  have e3 : IntKind.u64.wrap (((BitVec.ofInt 64 0 ||| BitVec.ofInt 64 0).toNat : Nat) : Int) = 0 := by decide
  refine Ev.of 0 rfl fun k _ => ?_
  rw [R77]
  simp only [PV.toInt, J77_2_eq, J77_3_eq, J77_5_eq, J77_7_eq, J77_8_eq, e1, e2, e3]
  rw [eqI_t (show (0 : Int) = 0 from rfl), ltI_t (show (0 : Int) < dh by omega)]
  simp only [cond_true, cond_false]
  unfold half
  by_cases h0 : r = 0
  · rw [eqI_t (by omega), if_pos h0]; rfl
  · rw [eqI_f (show (r : Int) ≠ 0 by omega), if_neg h0, if_pos (by omega)]; rfl
end Go.V

set_option linter.unusedSimpArgs false
set_option linter.unusedVariables false
set_option maxRecDepth 100000
namespace Go.V
open Go.Proofs

/-- A quotient of two words, word by word. -/
theorem two_words {A d : Nat} (hd : 0 < d) (hd2 : d < 18446744073709551616) : A / d = A / 18446744073709551616 / d * 18446744073709551616 + (A / 18446744073709551616 % d * 18446744073709551616 + A % 18446744073709551616) / d ∧
    (A / 18446744073709551616 % d * 18446744073709551616 + A % 18446744073709551616) % d = A % d ∧ (A / 18446744073709551616 % d * 18446744073709551616 + A % 18446744073709551616) / d < 18446744073709551616 := by
  have hB : (0 : Nat) < 18446744073709551616 := by decide
  generalize (18446744073709551616 : Nat) = B at *
  have e1 := Nat.div_add_mod A B
  have e2 := Nat.div_add_mod (A / B) d
  have l2 := Nat.mod_lt (A / B) hd
  have lB := Nat.mod_lt A hB
  have e : A = A / B % d * B + A % B + A / B / d * B * d := by
    conv => lhs; rw [← e1, ← e2]
    generalize A / B / d = x
    generalize A / B % d = y
    grind
  have hlt : (A / B % d * B + A % B) / d < B := by
    rw [Nat.div_lt_iff_lt_mul hd]
    have h1 : (A / B % d + 1) * B ≤ d * B := Nat.mul_le_mul_right _ l2
    rw [Nat.add_mul, Nat.one_mul] at h1
    rw [Nat.mul_comm B d]
    omega
  refine ⟨?_, ?_, hlt⟩
  · conv => lhs; rw [e]
    rw [Nat.add_mul_div_right _ _ hd]
    omega
  · conv => rhs; rw [e]
    rw [Nat.add_mul_mod_self_right]

theorem words_div {a b : Nat} (hb : b < 18446744073709551616) : (a * 18446744073709551616 + b) / 18446744073709551616 = a ∧ (a * 18446744073709551616 + b) % 18446744073709551616 = b := by omega

theorem scaled71g {m : Bool} {n d s : Nat} (hn : n < 4611686018427387904) (hd : d < 4611686018427387904) (h0 : 0 < d) (hs : s ≤ 30) :
    Ev 71 [.pv (.st 51) (xv m n d), .pv (.int .i64) (.int .i64 s)] [.pv (.int .u64) (.int .u64 (n * 2 ^ s / d / 18446744073709551616 : Nat)), .pv (.int .u64) (.int .u64 (n * 2 ^ s / d % 18446744073709551616 : Nat)), .pv (.int .i64) (.int .i64 (half (n * 2 ^ s % d) d))] := by
  have hp : 2 ^ s ≤ 2 ^ 30 := Nat.pow_le_pow_right (by decide) hs
  have hp0 : 0 < 2 ^ s := Nat.pow_pos (by decide)
  have h73 := mul73g (x := n) (y := 2 ^ s) (by omega) (by omega)
  have hAb : n * 2 ^ s ≤ 4611686018427387904 * 2 ^ 30 := Nat.mul_le_mul (by omega) hp
  generalize n * 2 ^ s = A at *
  obtain ⟨w1, w2, w3⟩ := two_words (A := A) h0 (by omega)
  have hr : A / 18446744073709551616 % d < d := Nat.mod_lt _ h0
  have h78 := div78g (hi := A / 18446744073709551616 % d) (lo := A % 18446744073709551616) (d := d) hr (by omega) (by omega)
  have hrd : A % d < d := Nat.mod_lt _ h0
  have h77 := halves77 (r := A % d) (d := d) (by omega) (by omega)
  have hq : A / 18446744073709551616 / d < 18446744073709551616 := Nat.lt_of_le_of_lt (Nat.div_le_self _ _) (by omega)
  obtain ⟨x1, x2⟩ := words_div (a := A / 18446744073709551616 / d) w3
  rw [← w1] at x1 x2
  rw [x1, x2]
  rw [w2] at h78
  refine Evt.ev (h73.evt.and (h78.evt.and h77.evt)) rfl fun k ⟨e1, e2, e3⟩ => ?_
  simp only [xv]
  rw [R71]
  simp only [PV.cell, PV.cells, List.getD_cons_succ, List.getD_cons_zero, PV.toInt, PV.toStr, PV.toBool, okRes, resPV, Ty.eq, Nat.beq_refl, decide_true, Bool.not_true, Bool.not_false, cond_true, cond_false, shl1 hs, e1, tys49, okMany, okTup, Bool.and_true, Bool.true_and, J71_6_eq, J71_9_eq, resAt, nth, aoPV, Nat.beq]
  rw [leI_t (show (0 : Int) ≤ s by omega), uwrap_id (n := (s : Int)) (by omega) (by omega), ltI_f (show (0 : Int) ≤ s by omega), eqI_t (show (0 : Int) = 0 from rfl), eqI_f (show (d : Int) ≠ 0 by omega)]
  have tm : ((A / 18446744073709551616 : Nat) : Int).tmod (d : Int) = ((A / 18446744073709551616 % d : Nat) : Int) := by
    rw [Int.tmod_eq_emod_of_nonneg (Int.natCast_nonneg _)]; simp
  simp only [cond_true, cond_false, Bool.not_true, tm, tdivN, e2, PV.cell, PV.cells, List.getD_cons_succ, List.getD_cons_zero, PV.toInt, PV.toStr, PV.toBool, okRes, resPV, Ty.eq, Nat.beq_refl, decide_true, Bool.not_true, Bool.not_false, cond_true, cond_false, okMany, okTup, Bool.and_true, Bool.true_and, resAt, nth, aoPV, Nat.beq, e3, uwN hq]

theorem shl1n' {t : Nat} (h : t ≤ 30) : IntKind.u64.wrap (1 * 2 ^ min (IntKind.u64.wrap (IntKind.i64.wrap (0 - -(t : Int)))).toNat 64) = ((2 ^ t : Nat) : Int) := shl1n h

theorem scaled71ng {m : Bool} {n d t : Nat} (hn : n < 4611686018427387904) (hd : d < 4611686018427387904) (h0 : 0 < d) (ht0 : 0 < t) (ht : t ≤ 30) :
    Ev 71 [.pv (.st 51) (xv m n d), .pv (.int .i64) (.int .i64 (-(t : Int)))] [.pv (.int .u64) (.int .u64 (n / (d * 2 ^ t) / 18446744073709551616 : Nat)), .pv (.int .u64) (.int .u64 (n / (d * 2 ^ t) % 18446744073709551616 : Nat)), .pv (.int .i64) (.int .i64 (half (n % (d * 2 ^ t)) (d * 2 ^ t)))] := by
  have hp : 2 ^ t ≤ 2 ^ 30 := Nat.pow_le_pow_right (by decide) ht
  have hp0 : 0 < 2 ^ t := Nat.pow_pos (by decide)
  have hdp0 : 0 < d * 2 ^ t := Nat.mul_pos h0 hp0
  have h73 := mul73g (x := d) (y := 2 ^ t) (by omega) (by omega)
  have hAb : d * 2 ^ t ≤ 4611686018427387904 * 2 ^ 30 := Nat.mul_le_mul (by omega) hp
  generalize d * 2 ^ t = D at *
  have hq : n / D < 18446744073709551616 := Nat.lt_of_le_of_lt (Nat.div_le_self _ _) (by omega)
  have hq0 : n / D / 18446744073709551616 = 0 := Nat.div_eq_of_lt hq
  rw [hq0, Nat.mod_eq_of_lt hq]
  by_cases c : D / 18446744073709551616 = 0
  · have hD : D < 18446744073709551616 := by omega
    have h78 := div78 (n := n) (d := D) (by omega) hD hdp0
    have hm : n % D ≤ n := Nat.mod_le _ _
    have h77 := halves77 (r := n % D) (d := D) (by omega) hD
    rw [c, Nat.mod_eq_of_lt hD] at h73
    refine Evt.ev (h73.evt.and (h78.evt.and h77.evt)) rfl fun k ⟨e1, e2, e3⟩ => ?_
    simp only [xv]
    rw [R71]
    simp only [PV.cell, PV.cells, List.getD_cons_succ, List.getD_cons_zero, PV.toInt, PV.toStr, PV.toBool, okRes, resPV, Ty.eq, Nat.beq_refl, decide_true, Bool.not_true, Bool.not_false, cond_true, cond_false, shl1n ht, e1, tys49, okMany, okTup, Bool.and_true, Bool.true_and, J71_6s1_eq, J71_9s1_eq, resAt, nth, aoPV, Nat.beq]
    rw [leI_f (show -(t : Int) < 0 by omega), show (0 : Int) - -(t : Int) = (t : Int) by omega, wrap_id (n := (t : Int)) (by omega) (by omega), uwrap_id (n := (t : Int)) (by omega) (by omega), ltI_f (show (0 : Int) ≤ t by omega)]
    rw [eqI_t (show ((0 : Nat) : Int) = 0 from rfl), eqI_f (show (D : Int) ≠ 0 by omega)]
    simp only [cond_true, cond_false, Bool.not_true, Int.zero_tmod, Int.zero_tdiv, PV.cell, PV.cells, List.getD_cons_succ, List.getD_cons_zero, PV.toInt, PV.toStr, PV.toBool, okRes, resPV, Ty.eq, Nat.beq_refl, decide_true, Bool.not_true, Bool.not_false, cond_true, cond_false, e2, okMany, okTup, Bool.and_true, Bool.true_and, resAt, nth, aoPV, Nat.beq, e3]
    rw [uwrap_id (n := 0) (by omega) (by omega)]
    rfl
  · have hq1 : n / D = 0 := Nat.div_eq_of_lt (by omega)
    have hm : n % D = n := Nat.mod_eq_of_lt (by omega)
    rw [hq1, hm]
    have h77 := halves77w (r := n) (dh := D / 18446744073709551616) (dl := D % 18446744073709551616) (by omega) (by omega) (by omega) (by omega)
    rw [show D / 18446744073709551616 * 18446744073709551616 + D % 18446744073709551616 = D by omega] at h77
    refine Evt.ev (h73.evt.and h77.evt) rfl fun k ⟨e1, e2⟩ => ?_
    simp only [xv]
    rw [R71]
    simp only [PV.cell, PV.cells, List.getD_cons_succ, List.getD_cons_zero, PV.toInt, PV.toStr, PV.toBool, okRes, resPV, Ty.eq, Nat.beq_refl, decide_true, Bool.not_true, Bool.not_false, cond_true, cond_false, shl1n ht, e1, tys49, okMany, okTup, Bool.and_true, Bool.true_and, J71_6s1_eq, J71_9s1_eq, resAt, nth, aoPV, Nat.beq]
    rw [leI_f (show -(t : Int) < 0 by omega), show (0 : Int) - -(t : Int) = (t : Int) by omega, wrap_id (n := (t : Int)) (by omega) (by omega), uwrap_id (n := (t : Int)) (by omega) (by omega), ltI_f (show (0 : Int) ≤ t by omega)]
    rw [eqI_f (show ((D / 18446744073709551616 : Nat) : Int) ≠ 0 by omega)]
    simp only [cond_true, cond_false, Bool.not_false, PV.cell, PV.cells, List.getD_cons_succ, List.getD_cons_zero, PV.toInt, PV.toStr, PV.toBool, okRes, resPV, Ty.eq, Nat.beq_refl, decide_true, Bool.not_true, Bool.not_false, cond_true, cond_false, e2]
    rfl

/-- Rounding of any fraction of words, times 2^s. -/
theorem rounded63g {m : Bool} {n d s : Nat} {round : ByteArray} (hn : n < 4611686018427387904) (hd : d < 4611686018427387904) (h0 : 0 < d) (hs : s ≤ 30) :
    Ev 63 [.pv (.st 51) (xv m n d), .pv (.int .i64) (.int .i64 s), .pv .str (.str round)] [.pv (.st 71) (.agg [.bool (m && !eqI (mag m round (n * 2 ^ s) d : Nat) 0), .int .u64 (mag m round (n * 2 ^ s) d / 18446744073709551616 : Nat), .int .u64 (mag m round (n * 2 ^ s) d % 18446744073709551616 : Nat)])] := by
  have hp : 2 ^ s ≤ 2 ^ 30 := Nat.pow_le_pow_right (by decide) hs
  have hnp : n * 2 ^ s ≤ 4611686018427387904 * 2 ^ 30 := Nat.mul_le_mul (by omega) hp
  have hq : n * 2 ^ s / d ≤ n * 2 ^ s := Nat.div_le_self _ _
  exact rounded63_w (q := n * 2 ^ s / d) (Nat.lt_of_le_of_lt (Nat.le_trans hq hnp) (by decide)) (scaled71g (m := m) hn hd h0 hs)

theorem rounded63ng {m : Bool} {n d t : Nat} {round : ByteArray} (hn : n < 4611686018427387904) (hd : d < 4611686018427387904) (h0 : 0 < d) (ht0 : 0 < t) (ht : t ≤ 30) :
    Ev 63 [.pv (.st 51) (xv m n d), .pv (.int .i64) (.int .i64 (-(t : Int))), .pv .str (.str round)] [.pv (.st 71) (.agg [.bool (m && !eqI (mag m round n (d * 2 ^ t) : Nat) 0), .int .u64 (mag m round n (d * 2 ^ t) / 18446744073709551616 : Nat), .int .u64 (mag m round n (d * 2 ^ t) % 18446744073709551616 : Nat)])] := by
  have hq : n / (d * 2 ^ t) ≤ n := Nat.div_le_self _ _
  exact rounded63_w (q := n / (d * 2 ^ t)) (Nat.lt_of_le_of_lt (Nat.le_trans hq (Nat.le_of_lt hn)) (by decide)) (scaled71ng (m := m) hn hd h0 ht0 ht)
end Go.V

set_option linter.unusedSimpArgs false
set_option linter.unusedVariables false
set_option maxRecDepth 100000
namespace Go.V
open Go.Proofs

theorem below65g {m : Bool} {n d : Nat} {e : Int} (hn : n < 4611686018427387904) (hd : d < 4611686018427387904) (e1 : -31 ≤ e) (e2 : e ≤ 31) :
    Ev 65 [.pv (.st 51) (xv m n d), .pv (.int .i64) (.int .i64 e)] [.pv .bool (.bool (belowB n d e))] := by
  unfold belowB
  by_cases he : 0 ≤ e
  · rw [if_pos he]
    have hp : 2 ^ e.toNat ≤ 2 ^ 31 := Nat.pow_le_pow_right (by decide) (by omega)
    have h := mul73g (x := d) (y := 2 ^ e.toNat) (by omega) (by omega)
    have ee : IntKind.u64.wrap (1 * 2 ^ min (IntKind.u64.wrap e).toNat 64) = ((2 ^ e.toNat : Nat) : Int) := shl1u he (by omega)
    generalize d * 2 ^ e.toNat = D at *
    refine Evt.ev h.evt rfl fun k h => ?_
    rw [R65]
    simp only [xv, PV.cell, PV.cells, List.getD_cons_succ, List.getD_cons_zero, PV.toInt, ee, h, tys49, okMany, okTup, Ty.eq, decide_true, Bool.and_true, Bool.true_and, resAt, nth, aoPV, Nat.beq, Bool.not_false, cond_true]
    rw [leI_t he, uwrap_id he (by omega), ltI_f he]
    simp only [cond_true, cond_false]
    by_cases c : D / 18446744073709551616 = 0
    · rw [ltI_f (show ((D / 18446744073709551616 : Nat) : Int) ≤ 0 by omega), ltI_nat, Nat.mod_eq_of_lt (by omega)]; rfl
    · rw [ltI_t (show (0 : Int) < ((D / 18446744073709551616 : Nat) : Int) by omega), decide_eq_true (show n < D by omega)]; rfl
  · rw [if_neg he]
    have hp : 2 ^ (-e).toNat ≤ 2 ^ 31 := Nat.pow_le_pow_right (by decide) (by omega)
    have h := mul73g (x := n) (y := 2 ^ (-e).toNat) (by omega) (by omega)
    have ee : IntKind.u64.wrap (1 * 2 ^ min (IntKind.u64.wrap (IntKind.i64.wrap (0 - e))).toNat 64) = ((2 ^ (-e).toNat : Nat) : Int) := by
      rw [show (0 : Int) - e = -e by omega, wrap_id (n := -e) (by omega) (by omega)]
      exact shl1u (by omega) (by omega)
    generalize n * 2 ^ (-e).toNat = D at *
    refine Evt.ev h.evt rfl fun k h => ?_
    rw [R65]
    simp only [xv, PV.cell, PV.cells, List.getD_cons_succ, List.getD_cons_zero, PV.toInt, J65_4_eq, ee, h, tys49, okMany, okTup, Ty.eq, decide_true, Bool.and_true, Bool.true_and, resAt, nth, aoPV, Nat.beq, Bool.not_false, cond_true]
    rw [leI_f (by omega), show (0 : Int) - e = -e by omega, wrap_id (n := -e) (by omega) (by omega), uwrap_id (n := -e) (by omega) (by omega), ltI_f (show (0 : Int) ≤ -e by omega)]
    simp only [cond_true, cond_false]
    by_cases c : D / 18446744073709551616 = 0
    · rw [eqI_t (show ((D / 18446744073709551616 : Nat) : Int) = 0 by omega), ltI_nat, Nat.mod_eq_of_lt (by omega)]; rfl
    · rw [eqI_f (show ((D / 18446744073709551616 : Nat) : Int) ≠ 0 by omega), decide_eq_false (show ¬ D < d by omega)]; rfl

/-- What is brought into range by whole turns. -/
theorem turn_key {t low : Nat} {K : Int} (ht : 0 < t) (hmod : ((low : Int) - K) % ((2 * t : Nat) : Int) = 0) :
    (if t ≤ low % (2 * t) then ((low % (2 * t) : Nat) : Int) - ((2 * t : Nat) : Int) else ((low % (2 * t) : Nat) : Int)) = wrapK t K := by
  unfold wrapK
  have hT : (0 : Int) < ((2 * t : Nat) : Int) := by omega
  have e1 : (low : Int) % ((2 * t : Nat) : Int) = K % ((2 * t : Nat) : Int) := Int.emod_eq_emod_iff_emod_sub_eq_zero.2 hmod
  have e2 : (K + (t : Int)) % ((2 * t : Nat) : Int) = (((low % (2 * t) : Nat) : Int) + t) % ((2 * t : Nat) : Int) := by
    rw [Int.natCast_emod, e1, Int.emod_add_emod]
  rw [e2]
  have hr : low % (2 * t) < 2 * t := Nat.mod_lt _ (by omega)
  generalize low % (2 * t) = r at hr
  by_cases hc : t ≤ r
  · rw [if_pos hc]
    have : ((r : Int) + t) % ((2 * t : Nat) : Int) = (r : Int) + t - ((2 * t : Nat) : Int) := by
      rw [← Int.sub_emod_right, Int.emod_eq_of_lt (by omega) (by omega)]
    rw [this]; omega
  · rw [if_neg hc, Int.emod_eq_of_lt (by omega) (by omega)]; omega

theorem turn_mod {e low : Nat} {K : Int} (he : e ≤ 60) (h : (low : Int) = K % 18446744073709551616) : ((low : Int) - K) % ((2 * 2 ^ e : Nat) : Int) = 0 := by
  have hd : ((2 * 2 ^ e : Nat) : Int) ∣ (18446744073709551616 : Int) := by
    refine ⟨((2 ^ (63 - e) : Nat) : Int), ?_⟩
    rw [← Int.natCast_mul, Nat.mul_assoc, ← Nat.pow_add, show e + (63 - e) = 63 by omega]
    rfl
  have e1 := Int.mul_ediv_add_emod K 18446744073709551616
  rw [← h] at e1
  have : (low : Int) - K = 18446744073709551616 * -(K / 18446744073709551616) := by rw [Int.mul_neg]; omega
  rw [this]
  exact Int.emod_eq_zero_of_dvd (Int.dvd_trans hd (Int.dvd_mul_right _ _))

/-- What a fixed format makes of a fraction with its sign apart. -/
def fixM (m : Bool) (round over : ByteArray) (I F : Int) (n d : Nat) : Int × Int :=
  if -((2 ^ (I + F).toNat : Nat) : Int) ≤ sK m (mag m round (n * 2 ^ F.toNat) d) ∧ sK m (mag m round (n * 2 ^ F.toNat) d) < ((2 ^ (I + F).toNat : Nat) : Int) then mk (sK m (mag m round (n * 2 ^ F.toNat) d)) ((2 ^ F.toNat : Nat) : Int)
  else bif sSat over then mk (if m = true then -((2 ^ (I + F).toNat : Nat) : Int) else ((2 ^ (I + F).toNat : Nat) : Int) - 1) ((2 ^ F.toNat : Nat) : Int)
  else bif sWrap over then mk (wrapK (2 ^ (I + F).toNat) (sK m (mag m round (n * 2 ^ F.toNat) d))) ((2 ^ F.toNat : Nat) : Int) else (0, 0)

section
variable {kind round over : ByteArray} {I F : Int} {m : Bool} {a : Nat}

/-- Out of range. -/
theorem j57_5 (hv : validB kind round over I F = true) (hk : sFix kind = true) (hI : 0 ≤ I) (hF : 0 ≤ F) (hIF : I + F ≤ 30) (ha : a ≠ 0) (v5 v6 v8 v11 : PV) :
    Evt fun k => J57_5 gate1 (EG k) k (.str kind) (.int .i64 I) (.int .i64 F) (.str round) (.str over) v5 v6 (.bool (m && !eqI (a : Nat) 0)) v8 (.int .u64 (a % 18446744073709551616 : Nat)) (.int .u64 (2 ^ (I + F).toNat : Nat)) v11 =
      some ([.pv (.st 25) (qv (bif sSat over then mk (if m = true then -((2 ^ (I + F).toNat : Nat) : Int) else ((2 ^ (I + F).toNat : Nat) : Int) - 1) ((2 ^ F.toNat : Nat) : Int)
        else bif sWrap over then mk (wrapK (2 ^ (I + F).toNat) (sK m a)) ((2 ^ F.toNat : Nat) : Int) else (0, 0)))], []) := by
  have hv16 := valid16b kind round over I F
  rw [hv] at hv16
  have ht : 2 ^ (I + F).toNat ≤ 2 ^ 30 := Nat.pow_le_pow_right (by decide) (by omega)
  have ht0 : 0 < 2 ^ (I + F).toNat := Nat.pow_pos (by decide)
  have hm : (m && !eqI ((a : Nat) : Int) 0) = m := by rw [eqI_f (show (a : Int) ≠ 0 by omega)]; cases m <;> rfl
  rw [hm]
  have hw := wrapK_range (K := sK m a) ht0
  obtain ⟨K, hK⟩ := ((least11 (over := over) hk hv16 hI hF hIF).evt.and (greatest12 (over := over) hk hv16 hI hF hIF).evt).and
    (value40 (kind := kind) (round := round) (over := over) (I := I) (k := wrapK (2 ^ (I + F).toNat) (sK m a)) hF (by omega) (by omega) (by omega)).evt
  refine ⟨K, fun k hkk => ?_⟩
  obtain ⟨⟨h1, h2⟩, h3⟩ := hK k hkk
  simp only [fv, qv] at h1 h2 h3 ⊢
  rw [J57_5_eq]
  unfold sSat sWrap
  simp only [PV.cell, PV.cells, List.getD_cons_succ, List.getD_cons_zero, PV.toInt, PV.toStr, PV.toBool, okRes, resPV, Ty.eq, Nat.beq_refl, decide_true, Bool.not_true, Bool.not_false, cond_true, cond_false, h1, J57_9_eq, J57_14_eq, J57_14s1_eq, J57_18_eq, J57_18s1_eq, J57_19_eq, h2]
  cases (over.data.toList == (ByteArray.mk #[115, 97, 116]).data.toList) with
  | true => cases m <;> rfl
  | false =>
    cases (over.data.toList == (ByteArray.mk #[119, 114, 97, 112]).data.toList) with
    | false => rfl
    | true =>
      simp only [cond_true, cond_false]
      -- the word that is masked
      have tail : ∀ low : Nat, low < 18446744073709551616 → (low : Int) = sK m a % 18446744073709551616 →
          (bif leI ((2 ^ (I + F).toNat : Nat) : Int) (IntKind.u64.wrap (((BitVec.ofInt 64 (low : Int) &&& BitVec.ofInt 64 (IntKind.u64.wrap (IntKind.u64.wrap (2 * ((2 ^ (I + F).toNat : Nat) : Int)) - 1))).toNat : Nat) : Int)) then
            let c5 := EG k 40 [AO.pv (Ty.st 23) (PV.agg [.str kind, .int .i64 I, .int .i64 F, .str round, .str over]), AO.pv (Ty.int IntKind.i64) (PV.int IntKind.i64 (IntKind.i64.wrap (IntKind.i64.wrap (IntKind.u64.wrap (((BitVec.ofInt 64 (low : Int) &&& BitVec.ofInt 64 (IntKind.u64.wrap (IntKind.u64.wrap (2 * ((2 ^ (I + F).toNat : Nat) : Int)) - 1))).toNat : Nat) : Int)) - IntKind.i64.wrap (IntKind.u64.wrap (2 * ((2 ^ (I + F).toNat : Nat) : Int))))))]
            bif okRes (Ty.st 25) c5 then some ([AO.pv (Ty.st 25) (PV.agg [(resPV c5).cell 0, (resPV c5).cell 1])], []) else none
          else
            let c6 := EG k 40 [AO.pv (Ty.st 23) (PV.agg [.str kind, .int .i64 I, .int .i64 F, .str round, .str over]), AO.pv (Ty.int IntKind.i64) (PV.int IntKind.i64 (IntKind.i64.wrap (IntKind.u64.wrap (((BitVec.ofInt 64 (low : Int) &&& BitVec.ofInt 64 (IntKind.u64.wrap (IntKind.u64.wrap (2 * ((2 ^ (I + F).toNat : Nat) : Int)) - 1))).toNat : Nat) : Int))))]
            bif okRes (Ty.st 25) c6 then some ([AO.pv (Ty.st 25) (PV.agg [(resPV c6).cell 0, (resPV c6).cell 1])], []) else none) =
          (some ([.pv (.st 25) (PV.agg [.int .i64 (mk (wrapK (2 ^ (I + F).toNat) (sK m a)) ((2 ^ F.toNat : Nat) : Int)).1, .int .i64 (mk (wrapK (2 ^ (I + F).toNat) (sK m a)) ((2 ^ F.toNat : Nat) : Int)).2])], []) : R) := by
        intro low hl he
        have hkey := turn_key (t := 2 ^ (I + F).toNat) ht0 (turn_mod (e := (I + F).toNat) (by omega) he)
        rw [maskTop (by omega) hl]
        have hr : low % (2 * 2 ^ (I + F).toNat) < 2 * 2 ^ (I + F).toNat := Nat.mod_lt _ (by omega)
        generalize low % (2 * 2 ^ (I + F).toNat) = r at hr hkey ⊢
        rw [show (2 : Int) * ((2 ^ (I + F).toNat : Nat) : Int) = ((2 * 2 ^ (I + F).toNat : Nat) : Int) by omega, uwN (z := 2 * 2 ^ (I + F).toNat) (by omega), wrap_id (n := (r : Int)) (by omega) (by omega), wrap_id (n := ((2 * 2 ^ (I + F).toNat : Nat) : Int)) (by omega) (by omega), wrap_id (by omega) (by omega)]
        by_cases c : 2 ^ (I + F).toNat ≤ r
        · rw [if_pos c] at hkey
          rw [leI_t (by omega), hkey]
          simp only [PV.cell, PV.cells, List.getD_cons_succ, List.getD_cons_zero, PV.toInt, PV.toStr, PV.toBool, okRes, resPV, Ty.eq, Nat.beq_refl, decide_true, Bool.not_true, Bool.not_false, cond_true, cond_false, h3]
        · rw [if_neg c] at hkey
          rw [leI_f (by omega), hkey]
          simp only [PV.cell, PV.cells, List.getD_cons_succ, List.getD_cons_zero, PV.toInt, PV.toStr, PV.toBool, okRes, resPV, Ty.eq, Nat.beq_refl, decide_true, Bool.not_true, Bool.not_false, cond_true, cond_false, h3]
      cases m with
      | true =>
        simp only [cond_true]
        have hlow : IntKind.u64.wrap (0 - ((a % 18446744073709551616 : Nat) : Int)) = (((18446744073709551616 - a % 18446744073709551616) % 18446744073709551616 : Nat) : Int) := by
          show (0 - ((a % 18446744073709551616 : Nat) : Int)) % 18446744073709551616 = _
          omega
        rw [hlow]
        exact tail _ (by omega) (by unfold sK; rw [if_pos rfl]; omega)
      | false =>
        simp only [cond_false]
        exact tail _ (by omega) (by unfold sK; rw [if_neg (by decide)]; omega)

theorem fix57g {n d : Nat} (hv : validB kind round over I F = true) (hk : sFix kind = true) (hn : n < 4611686018427387904) (hd : d < 4611686018427387904) (h0 : 0 < d) :
    Ev 57 [.pv (.st 23) (fv kind I F round over), .pv (.st 51) (xv m n d)] [.pv (.st 25) (qv (fixM m round over I F n d))] := by
  rcases (validB_facts hv).2 with ⟨_, ⟨hI, hF, hIF⟩, ho⟩ | ⟨h, _⟩
  · have ht : 2 ^ (I + F).toNat ≤ 2 ^ 30 := Nat.pow_le_pow_right (by decide) (by omega)
    have ht0 : 0 < 2 ^ (I + F).toNat := Nat.pow_pos (by decide)
    have h1 := rounded63g (m := m) (round := round) hn hd h0 (s := F.toNat) (by omega)
    rw [show ((F.toNat : Nat) : Int) = F by omega] at h1
    unfold fixM
    generalize mag m round (n * 2 ^ F.toNat) d = a at *
    by_cases c : -((2 ^ (I + F).toNat : Nat) : Int) ≤ sK m a ∧ sK m a < ((2 ^ (I + F).toNat : Nat) : Int)
    · rw [if_pos c]
      have hin : a < 2 ^ (I + F).toNat ∨ (m = true ∧ a = 2 ^ (I + F).toNat) := by
        unfold sK at c
        cases m with
        | true =>
          rw [if_pos rfl] at c
          rcases Nat.lt_or_ge a (2 ^ (I + F).toNat) with h | h
          · exact .inl h
          · exact .inr ⟨rfl, by omega⟩
        | false => rw [if_neg (by decide)] at c; left; omega
      have ha64 : a < 18446744073709551616 := by rcases hin with h | ⟨_, h⟩ <;> omega
      rw [show a / 18446744073709551616 = 0 by omega, Nat.mod_eq_of_lt ha64] at h1
      have h2 := signed64 (m := m) (a := a) (by omega)
      have h3 := value40 (kind := kind) (round := round) (over := over) (I := I) (k := sK m a) hF (by omega) (by omega) (by omega)
      refine Evt.ev (h1.evt.and (h2.evt.and h3.evt)) rfl fun k ⟨h1, h2, h3⟩ => ?_
      simp only [xv, fv, qv] at h1 h2 h3 ⊢
      rw [R57]
      simp only [PV.cell, PV.cells, List.getD_cons_succ, List.getD_cons_zero, PV.toInt, PV.toStr, PV.toBool, okRes, resPV, Ty.eq, Nat.beq_refl, decide_true, Bool.not_true, Bool.not_false, cond_true, cond_false, h1, J57_4_eq]
      rw [wrap_id (n := I + F) (by omega) (by omega), shl1u (F := I + F) (by omega) (by omega), uwrap_id (n := I + F) (by omega) (by omega), ltI_f (show (0 : Int) ≤ I + F by omega), eqI_t (show ((0 : Nat) : Int) = 0 from rfl)]
      simp only [cond_true, cond_false]
      rw [show ((0 : Nat) : Int) = 0 from rfl]
      rcases hin with hlt | ⟨rfl, heq⟩
      · rw [ltI_t (by omega)]
        simp only [cond_true, PV.cell, PV.cells, List.getD_cons_succ, List.getD_cons_zero, PV.toInt, PV.toStr, PV.toBool, okRes, resPV, Ty.eq, Nat.beq_refl, decide_true, Bool.not_true, Bool.not_false, cond_true, cond_false, h2, h3]
      · rw [ltI_f (by omega), eqI_t (show (a : Int) = ((2 ^ (I + F).toNat : Nat) : Int) by omega)]
        have ha0 : eqI (a : Int) 0 = false := eqI_f (by omega)
        simp only [ha0, Bool.not_false, Bool.and_true] at h2 ⊢
        simp only [cond_true, cond_false, PV.cell, PV.cells, List.getD_cons_succ, List.getD_cons_zero, PV.toInt, PV.toStr, PV.toBool, okRes, resPV, Ty.eq, Nat.beq_refl, decide_true, Bool.not_true, Bool.not_false, cond_true, cond_false, h2, h3]
    · rw [if_neg c]
      have hout : ¬ (a < 2 ^ (I + F).toNat) ∧ ¬ (m = true ∧ a = 2 ^ (I + F).toNat) := by
        unfold sK at c
        cases m with
        | true => rw [if_pos rfl] at c; exact ⟨by omega, fun ⟨_, h⟩ => by omega⟩
        | false => rw [if_neg (by decide)] at c; exact ⟨by omega, fun ⟨h, _⟩ => by cases h⟩
      refine Evt.ev (h1.evt.and (j57_5 (m := m) (a := a) hv hk hI hF hIF (by omega) (.int .i64 0) (.int .i64 0) (.int .u64 (a / 18446744073709551616 : Nat)) (.int .u64 (2 ^ (I + F).toNat : Nat)))) rfl fun k ⟨h1, h2⟩ => ?_
      simp only [xv, fv] at h1 ⊢
      rw [R57]
      simp only [PV.cell, PV.cells, List.getD_cons_succ, List.getD_cons_zero, PV.toInt, PV.toStr, PV.toBool, okRes, resPV, Ty.eq, Nat.beq_refl, decide_true, Bool.not_true, Bool.not_false, cond_true, cond_false, h1]
      rw [wrap_id (n := I + F) (by omega) (by omega), shl1u (F := I + F) (by omega) (by omega), uwrap_id (n := I + F) (by omega) (by omega), ltI_f (show (0 : Int) ≤ I + F by omega)]
      simp only [cond_false]
      by_cases cz : a / 18446744073709551616 = 0
      · rw [eqI_t (show ((a / 18446744073709551616 : Nat) : Int) = 0 by omega), ltI_f (show ((2 ^ (I + F).toNat : Nat) : Int) ≤ ((a % 18446744073709551616 : Nat) : Int) by omega)]
        simp only [cond_true, cond_false]
        cases m with
        | false => simp only [Bool.false_and, cond_false] at h2 ⊢; exact h2
        | true =>
          have hne : ((a % 18446744073709551616 : Nat) : Int) ≠ ((2 ^ (I + F).toNat : Nat) : Int) := fun e => hout.2 ⟨rfl, by omega⟩
          rw [eqI_f hne]
          simp only [cond_false]
          simp only [Bool.true_and] at h2 ⊢
          cases hz : !eqI (a : Int) 0 with
          | true => rw [hz] at h2; simp only [cond_true]; exact h2
          | false => rw [hz] at h2; simp only [cond_false]; exact h2
      · rw [eqI_f (show ((a / 18446744073709551616 : Nat) : Int) ≠ 0 by omega)]
        simp only [cond_false]; exact h2
  · rw [h] at hk; cases hk

/-- What a format makes of any fraction of words, the sign apart. -/
def fitM (kind round over : ByteArray) (I F : Int) (m : Bool) (n d : Nat) : Int × Int :=
  bif sFix kind then fixM m round over I F n d else floatR m round over I.toNat F.toNat n d

theorem fit36g {n d : Nat} (hv : validB kind round over I F = true) (hn : n < 4611686018427387904) (hd : d < 4611686018427387904) (h0 : 0 < d) :
    Ev 36 [.pv (.st 23) (fv kind I F round over), .pv (.st 51) (xv m n d)] [.pv (.st 25) (qv (fitM kind round over I F m n d))] := by
  unfold fitM
  cases hk : sFix kind with
  | true =>
    have h := fix57g (m := m) hv hk hn hd h0
    unfold sFix at hk
    refine Evt.ev h.evt rfl fun k h => ?_
    simp only [fv, xv, qv] at h ⊢
    rw [R36]
    simp only [PV.cell, PV.cells, List.getD_cons_succ, List.getD_cons_zero, PV.toInt, PV.toStr, PV.toBool, okRes, resPV, Ty.eq, Nat.beq_refl, decide_true, Bool.not_true, Bool.not_false, cond_true, cond_false, hk, h]
  | false =>
    refine fit36f hk ?_
    rcases (validB_facts hv).2 with ⟨h, _⟩ | ⟨_, ⟨hI1, hI2, hF, hF2, hIF⟩, ho⟩
    · rw [h] at hk; cases hk
    · obtain ⟨i, rfl⟩ := Int.eq_ofNat_of_zero_le (show 0 ≤ I by omega)
      obtain ⟨f, rfl⟩ := Int.eq_ofNat_of_zero_le hF
      simp only [Int.toNat_natCast, cond_false]
      have ok : FlOk i f := ⟨by omega, by omega, by omega, by omega⟩
      refine float58 ok hv hk h0 (fun t t1 t2 => below65g hn hd (by omega) (by omega)) (fun t t1 t2 hb => ?_)
      have hM : magF m round n d t ≤ 2 ^ i := by
        rw [magF_grid (f := f) h0 (s := (t + f).toNat) (by omega)]
        refine mag_top h0 ?_
        rw [belowB_grid (f := f) (s := (t + f).toNat) (by omega)] at hb
        exact of_decide_eq_true hb
      have hi : 2 ^ i ≤ 2 ^ 24 := Nat.pow_le_pow_right (by decide) (by omega)
      have z1 : magF m round n d t / 18446744073709551616 = 0 := by omega
      have z2 : magF m round n d t % 18446744073709551616 = magF m round n d t := by omega
      unfold magF at z1 z2 ⊢
      by_cases ht : 0 < t
      · have := rounded63ng (m := m) (round := round) hn hd h0 (t := t.toNat) (by omega) (by omega)
        rw [show (-t).toNat = 0 by omega, Nat.pow_zero, Nat.mul_one] at z1 z2 ⊢
        rw [z1, z2, show ((t.toNat : Nat) : Int) = t by omega] at this
        exact this
      · have := rounded63g (m := m) (round := round) hn hd h0 (s := (-t).toNat) (by omega)
        rw [show t.toNat = 0 by omega, Nat.pow_zero, Nat.mul_one] at z1 z2 ⊢
        rw [z1, z2, show (((-t).toNat : Nat) : Int) = -t by omega] at this
        exact this
end
end Go.V

set_option linter.unusedSimpArgs false
set_option linter.unusedVariables false
set_option maxRecDepth 100000
namespace Go.V
open Go.Proofs

theorem low53 (m : Bool) : ∀ (b a : Nat) (n d : Nat), Lv (fun k j => L53_2 gate1 (EG k) k j (.bool m) (.int .u64 n) (.int .u64 d) (.bool false) (.int .u64 0) (.int .u64 0) (.int .u64 a) (.int .u64 b))
      [.pv (.st 51) (xv m (n / Nat.gcd b a) (d / Nat.gcd b a))] ∨ Nat.gcd b a = 0 ∨ 18446744073709551616 ≤ n ∨ 18446744073709551616 ≤ d := by
  intro b
  induction b using Nat.strongRecOn with
  | _ b ih =>
    intro a n d
    by_cases hn : 18446744073709551616 ≤ n
    · exact .inr (.inr (.inl hn))
    by_cases hd : 18446744073709551616 ≤ d
    · exact .inr (.inr (.inr hd))
    cases b with
    | zero =>
      by_cases ha : a = 0
      · right; left; rw [ha]; rfl
      · left
        refine Lv.of 0 fun k j _ _ => ?_
        rw [L53_2_succ]
        simp only [PV.toInt, J53_4_eq]
        rw [eqI_t (show ((0 : Nat) : Int) = 0 from rfl), eqI_f (show (a : Int) ≠ 0 by omega)]
        have l1 : n / a ≤ n := Nat.div_le_self _ _
        have l2 : d / a ≤ d := Nat.div_le_self _ _
        simp only [Bool.not_true, cond_false, tdivN, Nat.gcd_zero_left]
        rw [uwN (z := n / a) (Nat.lt_of_le_of_lt l1 (by omega)), uwN (z := d / a) (Nat.lt_of_le_of_lt l2 (by omega))]
        rfl
    | succ b =>
      rcases ih (a % (b + 1)) (Nat.mod_lt _ (by omega)) (b + 1) n d with ⟨K, h⟩ | h | h
      · left
        refine Lv.of K fun k j hk hj => ?_
        have h := h k j hk hj
        rw [L53_2_succ]
        simp only [PV.toInt, J53_3_eq]
        rw [eqI_f (show ((b + 1 : Nat) : Int) ≠ 0 by omega)]
        have e : ((a : Nat) : Int).tmod ((b + 1 : Nat) : Int) = ((a % (b + 1) : Nat) : Int) := by
          rw [Int.tmod_eq_emod_of_nonneg (Int.natCast_nonneg a), ← Int.natCast_emod]
        rw [Nat.gcd_rec]
        simp only [Bool.not_false, cond_true, cond_false, e]
        exact h
      · right; left; rw [Nat.gcd_rec]; exact h
      · exact .inr (.inr h)

theorem lowest53 {m : Bool} {n d : Nat} (hn : n < 18446744073709551616) (hd : d < 18446744073709551616) (h0 : 0 < d) :
    Ev 53 [.pv .bool (.bool m), .pv (.int .u64) (.int .u64 n), .pv (.int .u64) (.int .u64 d)] [.pv (.st 51) (xv m (n / Nat.gcd d n) (d / Nat.gcd d n))] := by
  have hg : 0 < Nat.gcd d n := Nat.gcd_pos_of_pos_left _ h0
  rcases low53 m d n n d with ⟨K, h⟩ | h | h | h
  · refine Ev.of K rfl fun k hk => ?_
    rw [R53]
    exact h k k hk hk
  · omega
  · omega
  · omega

section
variable {kind round over : ByteArray} {I F : Int} {m : Bool}

theorem WF_scale {i f n d c : Nat} (hi : 1 ≤ i) (hd : 0 < d) (hc : 0 < c) : WF m round i f (n * c) (d * c) = WF m round i f n d := by
  have e : n * c * d = n * (d * c) := by ac_rfl
  exact Nat.le_antisymm (WF_mono hi (Nat.mul_pos hd hc) hd (Nat.le_of_eq e)) (WF_mono hi hd (Nat.mul_pos hd hc) (Nat.le_of_eq e.symm))

theorem fitM_scale {n d c : Nat} (hv : validB kind round over I F = true) (hd : 0 < d) (hc : 0 < c) : fitM kind round over I F m (n * c) (d * c) = fitM kind round over I F m n d := by
  unfold fitM
  cases hk : sFix kind with
  | true =>
    simp only [cond_true]
    unfold fixM
    rw [Nat.mul_right_comm, mag_scale hd hc]
  | false =>
    rcases (validB_facts hv).2 with ⟨h, _⟩ | ⟨_, ⟨hI1, hI2, hF, hF2, hIF⟩, ho⟩
    · rw [h] at hk; cases hk
    · simp only [cond_false]
      unfold floatR
      rw [WF_scale (by omega) hd hc]

theorem fitM_zero {d : Nat} (hv : validB kind round over I F = true) (hd : 0 < d) (m m' : Bool) : fitM kind round over I F m 0 d = fitM kind round over I F m' 0 d := by
  unfold fitM
  cases hk : sFix kind with
  | true =>
    simp only [cond_true]
    unfold fixM
    have p : (0 : Int) < ((2 ^ (I + F).toNat : Nat) : Int) := by have : 0 < 2 ^ (I + F).toNat := Nat.pow_pos (by decide); omega
    rw [Nat.zero_mul, mag_zero, mag_zero, sK_zero, sK_zero, if_pos ⟨by omega, by omega⟩, if_pos ⟨by omega, by omega⟩]
  | false =>
    simp only [cond_false]
    unfold floatR
    have p : 0 < 2 ^ (I.toNat + 2 * F.toNat) := Nat.pow_pos (by decide)
    rw [WF_zero hd, WF_zero hd, sK_zero, sK_zero, if_pos p, if_pos p]

/-- What a format makes of any fraction. -/
def fitW (kind round over : ByteArray) (I F N D : Int) : Int × Int := fitM kind round over I F (ltI N 0) N.natAbs D.natAbs

theorem fit_low {n d : Nat} (hv : validB kind round over I F = true) (hn : n < 4611686018427387904) (hd : d < 4611686018427387904) (h0 : 0 < d) :
    Ev 36 [.pv (.st 23) (fv kind I F round over), .pv (.st 51) (xv m (n / Nat.gcd d n) (d / Nat.gcd d n))] [.pv (.st 25) (qv (fitM kind round over I F m n d))] := by
  have hg : 0 < Nat.gcd d n := Nat.gcd_pos_of_pos_left _ h0
  have l1 : n / Nat.gcd d n ≤ n := Nat.div_le_self _ _
  have l2 : d / Nat.gcd d n ≤ d := Nat.div_le_self _ _
  have hd1 : 0 < d / Nat.gcd d n := Nat.div_pos (Nat.le_of_dvd h0 (Nat.gcd_dvd_left _ _)) hg
  have h := fit36g (m := m) hv (Nat.lt_of_le_of_lt l1 hn) (Nat.lt_of_le_of_lt l2 hd) hd1
  have e := fitM_scale (m := m) (n := n / Nat.gcd d n) (d := d / Nat.gcd d n) hv hd1 hg
  rw [Nat.div_mul_cancel (Nat.gcd_dvd_right d n), Nat.div_mul_cancel (Nat.gcd_dvd_left d n)] at e
  rw [e]; exact h

def addM (kind round over : ByteArray) (I F : Int) (a b : Int × Int) : Int × Int :=
  bif validB kind round over I F && (isp a && isp b) then fitW kind round over I F (a.1 * b.2 + b.1 * a.2) (a.2 * b.2) else (0, 0)
def mulM (kind round over : ByteArray) (I F : Int) (a b : Int × Int) : Int × Int :=
  bif validB kind round over I F && (isp a && isp b) then fitW kind round over I F (a.1 * b.1) (a.2 * b.2) else (0, 0)

theorem add28 (a b : Int × Int) : Ev 28 [.pv (.st 23) (fv kind I F round over), .pv (.st 25) (qv a), .pv (.st 25) (qv b)] [.pv (.st 25) (qv (addM kind round over I F a b))] := by
  unfold addM
  cases hv : validB kind round over I F with
  | false =>
    refine Evt.ev (valid16b kind round over I F).evt rfl fun k h1 => ?_
    rw [hv] at h1
    simp only [fv, qv] at h1 ⊢
    rw [R28]
    simp only [PV.cell, PV.cells, List.getD_cons_succ, List.getD_cons_zero, PV.toInt, PV.toStr, PV.toBool, okRes, resPV, Ty.eq, Nat.beq_refl, decide_true, Bool.not_true, Bool.not_false, cond_true, cond_false, h1, J28_2_eq, Bool.false_and]
  | true =>
    cases ha : isp a with
    | false =>
      refine Evt.ev ((valid16b kind round over I F).evt.and (isp35 a).evt) rfl fun k ⟨h1, h2⟩ => ?_
      rw [hv] at h1
      rw [ha] at h2
      simp only [fv, qv] at h1 h2 ⊢
      rw [R28]
      simp only [PV.cell, PV.cells, List.getD_cons_succ, List.getD_cons_zero, PV.toInt, PV.toStr, PV.toBool, okRes, resPV, Ty.eq, Nat.beq_refl, decide_true, Bool.not_true, Bool.not_false, cond_true, cond_false, h1, h2, J28_2_eq, Bool.false_and, Bool.and_false]
    | true =>
      cases hb : isp b with
      | false =>
        refine Evt.ev ((valid16b kind round over I F).evt.and ((isp35 a).evt.and (isp35 b).evt)) rfl fun k ⟨h1, h2, h3⟩ => ?_
        rw [hv] at h1
        rw [ha] at h2
        rw [hb] at h3
        simp only [fv, qv] at h1 h2 h3 ⊢
        rw [R28]
        simp only [PV.cell, PV.cells, List.getD_cons_succ, List.getD_cons_zero, PV.toInt, PV.toStr, PV.toBool, okRes, resPV, Ty.eq, Nat.beq_refl, decide_true, Bool.not_true, Bool.not_false, cond_true, cond_false, h1, h2, h3, J28_2_eq, Bool.false_and, Bool.and_false]
      | true =>
        obtain ⟨p1, p2, p3, p4, _⟩ := isq_facts ha
        obtain ⟨q1, q2, q3, q4, _⟩ := isq_facts hb
        have b1 := mul_bd p3 p4 (show -1073741824 ≤ b.2 by omega) q2 (by omega) (by omega)
        have b2 := mul_bd q3 q4 (show -1073741824 ≤ a.2 by omega) p2 (by omega) (by omega)
        have b3 := mul_bd (show -1073741824 ≤ a.2 by omega) p2 (show -1073741824 ≤ b.2 by omega) q2 (by omega) (by omega)
        have b4 : 1 ≤ a.2 * b.2 := Int.mul_pos (show 0 < a.2 by omega) (show 0 < b.2 by omega)
        unfold fitW
        simp only [Bool.and_self, cond_true]
        have w1 := wrap_id (n := a.1 * b.2) (by omega) (by omega)
        have w2 := wrap_id (n := b.1 * a.2) (by omega) (by omega)
        have w3 := wrap_id (n := a.1 * b.2 + b.1 * a.2) (by omega) (by omega)
        have w4 := wrap_id (n := a.2 * b.2) (by omega) (by omega)
        generalize hx1 : a.1 * b.2 = x1 at *
        generalize hx2 : b.1 * a.2 = x2 at *
        generalize hD : a.2 * b.2 = D at *
        have hNb : -2305843009213693952 ≤ x1 + x2 ∧ x1 + x2 ≤ 2305843009213693952 := by omega
        generalize hN0 : x1 + x2 = N at *
        have w5 : IntKind.u64.wrap D = ((D.natAbs : Nat) : Int) := by rw [uwrap_id (by omega) (by omega)]; omega
        refine Evt.ev (((valid16b kind round over I F).evt.and ((isp35 a).evt.and (isp35 b).evt)).and ((lowest53 (m := ltI N 0) (n := N.natAbs) (d := D.natAbs) (by omega) (by omega) (by omega)).evt.and (fit_low (m := ltI N 0) (n := N.natAbs) (d := D.natAbs) hv (by omega) (by omega) (by omega)).evt)) rfl fun k ⟨⟨h1, h2, h3⟩, h4, h5⟩ => ?_
        rw [hv] at h1
        rw [ha] at h2
        rw [hb] at h3
        by_cases hN : N < 0
        · rw [ltI_t hN] at h4 h5 ⊢
          have w6 : IntKind.u64.wrap (IntKind.i64.wrap (0 - N)) = ((N.natAbs : Nat) : Int) := by rw [wrap_id (by omega) (by omega), uwrap_id (by omega) (by omega)]; omega
          simp only [fv, qv, xv] at h1 h2 h3 h4 h5 ⊢
          rw [R28]
          simp only [PV.cell, PV.cells, List.getD_cons_succ, List.getD_cons_zero, PV.toInt, PV.toStr, PV.toBool, okRes, resPV, Ty.eq, Nat.beq_refl, decide_true, Bool.not_true, Bool.not_false, cond_true, cond_false, h1, h2, h3, J28_3_eq, hx1, hx2, hD, w1, w2, hN0, w3, w4, w5, w6, h4, ltI_t hN, h5]
        · rw [ltI_f (show 0 ≤ N by omega)] at h4 h5 ⊢
          have w6 : IntKind.u64.wrap N = ((N.natAbs : Nat) : Int) := by rw [uwrap_id (by omega) (by omega)]; omega
          simp only [fv, qv, xv] at h1 h2 h3 h4 h5 ⊢
          rw [R28]
          simp only [PV.cell, PV.cells, List.getD_cons_succ, List.getD_cons_zero, PV.toInt, PV.toStr, PV.toBool, okRes, resPV, Ty.eq, Nat.beq_refl, decide_true, Bool.not_true, Bool.not_false, cond_true, cond_false, h1, h2, h3, J28_3_eq, J28_6_eq, hx1, hx2, hD, w1, w2, hN0, w3, w4, w5, w6, h4, ltI_f (show 0 ≤ N by omega), h5]

theorem mul30 (a b : Int × Int) : Ev 30 [.pv (.st 23) (fv kind I F round over), .pv (.st 25) (qv a), .pv (.st 25) (qv b)] [.pv (.st 25) (qv (mulM kind round over I F a b))] := by
  unfold mulM
  cases hv : validB kind round over I F with
  | false =>
    refine Evt.ev (valid16b kind round over I F).evt rfl fun k h1 => ?_
    rw [hv] at h1
    simp only [fv, qv] at h1 ⊢
    rw [R30]
    simp only [PV.cell, PV.cells, List.getD_cons_succ, List.getD_cons_zero, PV.toInt, PV.toStr, PV.toBool, okRes, resPV, Ty.eq, Nat.beq_refl, decide_true, Bool.not_true, Bool.not_false, cond_true, cond_false, h1, J30_2_eq, Bool.false_and]
  | true =>
    cases ha : isp a with
    | false =>
      refine Evt.ev ((valid16b kind round over I F).evt.and (isp35 a).evt) rfl fun k ⟨h1, h2⟩ => ?_
      rw [hv] at h1
      rw [ha] at h2
      simp only [fv, qv] at h1 h2 ⊢
      rw [R30]
      simp only [PV.cell, PV.cells, List.getD_cons_succ, List.getD_cons_zero, PV.toInt, PV.toStr, PV.toBool, okRes, resPV, Ty.eq, Nat.beq_refl, decide_true, Bool.not_true, Bool.not_false, cond_true, cond_false, h1, h2, J30_2_eq, Bool.false_and, Bool.and_false]
    | true =>
      cases hb : isp b with
      | false =>
        refine Evt.ev ((valid16b kind round over I F).evt.and ((isp35 a).evt.and (isp35 b).evt)) rfl fun k ⟨h1, h2, h3⟩ => ?_
        rw [hv] at h1
        rw [ha] at h2
        rw [hb] at h3
        simp only [fv, qv] at h1 h2 h3 ⊢
        rw [R30]
        simp only [PV.cell, PV.cells, List.getD_cons_succ, List.getD_cons_zero, PV.toInt, PV.toStr, PV.toBool, okRes, resPV, Ty.eq, Nat.beq_refl, decide_true, Bool.not_true, Bool.not_false, cond_true, cond_false, h1, h2, h3, J30_2_eq, Bool.false_and, Bool.and_false]
      | true =>
        obtain ⟨p1, p2, p3, p4, _⟩ := isq_facts ha
        obtain ⟨q1, q2, q3, q4, _⟩ := isq_facts hb
        have b1 : a.1.natAbs * b.1.natAbs ≤ 1073741824 * 1073741824 := Nat.mul_le_mul (by omega) (by omega)
        have b2 : a.2.natAbs * b.2.natAbs ≤ 1073741824 * 1073741824 := Nat.mul_le_mul (by omega) (by omega)
        have b3 : 0 < a.2.natAbs * b.2.natAbs := Nat.mul_pos (by omega) (by omega)
        have w1 := uwN (z := a.1.natAbs * b.1.natAbs) (by omega)
        have w2 := uwN (z := a.2.natAbs * b.2.natAbs) (by omega)
        unfold fitW
        simp only [Bool.and_self, cond_true, Int.natAbs_mul]
        -- the sign
        have hs : fitM kind round over I F (ltI (a.1 * b.1) 0) (a.1.natAbs * b.1.natAbs) (a.2.natAbs * b.2.natAbs) = fitM kind round over I F (!(ltI a.1 0 == ltI b.1 0)) (a.1.natAbs * b.1.natAbs) (a.2.natAbs * b.2.natAbs) := by
          by_cases z : a.1.natAbs * b.1.natAbs = 0
          · rw [z]; exact fitM_zero hv b3 _ _
          · congr 1
            have za : a.1 ≠ 0 := fun h => z (by rw [h]; simp)
            have zb : b.1 ≠ 0 := fun h => z (by rw [h]; simp)
            by_cases c1 : a.1 < 0
            · by_cases c2 : b.1 < 0
              · rw [ltI_t c1, ltI_t c2, ltI_f (Int.le_of_lt (Int.mul_pos_of_neg_of_neg c1 c2))]; rfl
              · rw [ltI_t c1, ltI_f (show 0 ≤ b.1 by omega), ltI_t (Int.mul_neg_of_neg_of_pos c1 (by omega))]; rfl
            · by_cases c2 : b.1 < 0
              · rw [ltI_f (show 0 ≤ a.1 by omega), ltI_t c2, ltI_t (Int.mul_neg_of_pos_of_neg (by omega) c2)]; rfl
              · rw [ltI_f (show 0 ≤ a.1 by omega), ltI_f (show 0 ≤ b.1 by omega), ltI_f (Int.mul_nonneg (by omega) (by omega))]; rfl
        rw [hs]
        refine Evt.ev ((((valid16b kind round over I F).evt.and ((isp35 a).evt.and (isp35 b).evt)).and ((of37 p3 p4 p1 p2).evt.and (of37 q3 q4 q1 q2).evt)).and ((lowest53 (m := !(ltI a.1 0 == ltI b.1 0)) (n := a.1.natAbs * b.1.natAbs) (d := a.2.natAbs * b.2.natAbs) (by omega) (by omega) b3).evt.and (fit_low (m := !(ltI a.1 0 == ltI b.1 0)) (n := a.1.natAbs * b.1.natAbs) (d := a.2.natAbs * b.2.natAbs) hv (by omega) (by omega) b3).evt)) rfl fun k ⟨⟨⟨h1, h2, h3⟩, h6, h7⟩, h4, h5⟩ => ?_
        rw [hv] at h1
        rw [ha] at h2
        rw [hb] at h3
        simp only [fv, qv, xv] at h1 h2 h3 h4 h5 h6 h7 ⊢
        rw [R30]
        simp only [PV.cell, PV.cells, List.getD_cons_succ, List.getD_cons_zero, PV.toInt, PV.toStr, PV.toBool, okRes, resPV, Ty.eq, Nat.beq_refl, decide_true, Bool.not_true, Bool.not_false, cond_true, cond_false, h1, h2, h3, J30_3_eq, h6, h7, ← Int.natCast_mul, w1, w2, h4, h5]
end
end Go.V
