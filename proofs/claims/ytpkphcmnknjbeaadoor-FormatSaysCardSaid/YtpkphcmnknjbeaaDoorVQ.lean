/- What Fit, Is, Bound, Least and Greatest compute in any format, fixed or floating; the laws of rounding. Conditions: those that each theorem names. -/
import Derived.Test.YtpkphcmnknjbeaaDoorVP
import Derived.Test.YtpkphcmnknjbeaaDoorVF
set_option linter.unusedSimpArgs false
set_option linter.unusedVariables false
set_option maxRecDepth 100000
namespace Go.V
open Go.Proofs

theorem shl1n {t : Nat} (h : t ≤ 30) : IntKind.u64.wrap (1 * 2 ^ min (IntKind.u64.wrap (IntKind.i64.wrap (0 - -(t : Int)))).toNat 64) = ((2 ^ t : Nat) : Int) := by
  rw [show (0 : Int) - -(t : Int) = (t : Int) by omega, wrap_id (by omega) (by omega)]
  exact shl1 h

/-- Scaled down. -/
theorem scaled71n {m : Bool} {n d t : Nat} (hn : n ≤ 1073741824) (hd : d ≤ 1073741824) (h0 : 0 < d) (ht0 : 0 < t) (ht : t ≤ 30) :
    Ev 71 [.pv (.st 51) (xv m n d), .pv (.int .i64) (.int .i64 (-(t : Int)))] [.pv (.int .u64) (.int .u64 0), .pv (.int .u64) (.int .u64 (n / (d * 2 ^ t) : Nat)), .pv (.int .i64) (.int .i64 (half (n % (d * 2 ^ t)) (d * 2 ^ t)))] := by
  have hp : 2 ^ t ≤ 2 ^ 30 := Nat.pow_le_pow_right (by decide) ht
  have hp0 : 0 < 2 ^ t := Nat.pow_pos (by decide)
  have hdp : d * 2 ^ t ≤ 1073741824 * 2 ^ 30 := Nat.mul_le_mul hd hp
  have hdp0 : 0 < d * 2 ^ t := Nat.mul_pos h0 hp0
  have hm : n % (d * 2 ^ t) ≤ n := Nat.mod_le _ _
  obtain ⟨K1, h1⟩ := mul73 (x := d) (y := 2 ^ t) (by omega) (by omega)
  obtain ⟨K2, h2⟩ := div78 (n := n) (d := d * 2 ^ t) (by omega) (by omega) hdp0
  obtain ⟨K3, h3⟩ := halves77 (r := n % (d * 2 ^ t)) (d := d * 2 ^ t) (by omega) (by omega)
  refine Ev.of (max K1 (max K2 K3)) rfl fun k hk => ?_
  rw [R71]
  simp only [xv, PV.cell, PV.cells, List.getD_cons_succ, List.getD_cons_zero, PV.toInt, shl1n ht, h1 k (by omega), tys49, okMany, okTup, Ty.eq, decide_true, Bool.and_true, Bool.true_and, J71_6s1_eq, J71_9s1_eq, resAt, nth]
  rw [leI_f (show -(t : Int) < 0 by omega), show (0 : Int) - -(t : Int) = (t : Int) by omega, wrap_id (n := (t : Int)) (by omega) (by omega), uwrap_id (n := (t : Int)) (by omega) (by omega), ltI_f (show (0 : Int) ≤ t by omega)]
  simp only [cond_true, cond_false, aoPV, PV.toInt, Nat.beq, Bool.not_false, Bool.not_true]
  rw [eqI_t (show (0 : Int) = 0 from rfl), eqI_f (show ((d * 2 ^ t : Nat) : Int) ≠ 0 by omega)]
  simp only [cond_true, cond_false, Int.zero_tmod, h2 k (by omega), aoPV, okTup, Ty.eq, decide_true, Bool.and_true, nth, h3 k (by omega), okRes, resPV, Int.zero_tdiv, Bool.not_true]
  rw [uwrap_id (n := 0) (by omega) (by omega)]

/-- Rounding, from what scaling gives. -/
theorem rounded63_of {m : Bool} {n d q : Nat} {s h : Int} {round : ByteArray} (hs : Ev 71 [.pv (.st 51) (xv m n d), .pv (.int .i64) (.int .i64 s)] [.pv (.int .u64) (.int .u64 0), .pv (.int .u64) (.int .u64 q), .pv (.int .i64) (.int .i64 h)]) (hq : q < 9223372036854775808) :
    Ev 63 [.pv (.st 51) (xv m n d), .pv (.int .i64) (.int .i64 s), .pv .str (.str round)] [.pv (.st 71) (.agg [.bool (m && !eqI (q + (bif upB m round q h then 1 else 0) : Nat) 0), .int .u64 0, .int .u64 (q + (bif upB m round q h then 1 else 0) : Nat)])] := by
  obtain ⟨K1, h1⟩ := hs
  simp only [xv] at h1 ⊢
  have ha := add72 (a := q) hq
  refine Ev.of K1 rfl fun k hk => ?_
  rw [R63]
  simp only [PV.cell, PV.cells, List.getD_cons_succ, List.getD_cons_zero, PV.toInt, PV.toStr, h1 k hk, tys493, tys49, okMany, okTup, Ty.eq, decide_true, Bool.and_true, Bool.true_and, resAt, nth, aoPV, Nat.beq, Bool.not_false, cond_true,
    J63_8_eq, J63_8s1_eq, J63_8s2_eq, J63_12_eq, J63_12s1_eq, ha, PV.toBool, odd1, upB]
  have w0 : IntKind.u64.wrap ((0 : Int) + 0) = 0 := by decide
  have z0 : eqI 0 0 = true := rfl
  cases hr : (round.data.toList == (ByteArray.mk #[102, 108, 111, 111, 114]).data.toList) with
  | true =>
    cases m with
    | true =>
      cases hh : ltI 0 h with
      | true => simp [w0, z0]; rfl
      | false => simp [w0, z0]
    | false => simp [w0, z0]
  | false =>
    cases hr2 : (round.data.toList == (ByteArray.mk #[110, 101, 97, 114]).data.toList) with
    | false => cases m <;> simp [w0, z0]
    | true =>
      cases h3 : eqI h 3 with
      | true => cases m <;> simp [w0, z0] <;> rfl
      | false =>
        cases h2 : eqI h 2 with
        | true =>
          cases ho : eqI (q % 2 : Nat) 1 with
          | true => cases m <;> simp [w0, z0] <;> (first | rfl | skip)
          | false => cases m <;> simp [w0, z0] <;> (first | rfl | skip)
        | false => cases m <;> simp [w0, z0]


theorem rounded63n {m : Bool} {n d t : Nat} {round : ByteArray} (hn : n ≤ 1073741824) (hd : d ≤ 1073741824) (h0 : 0 < d) (ht0 : 0 < t) (ht : t ≤ 30) :
    Ev 63 [.pv (.st 51) (xv m n d), .pv (.int .i64) (.int .i64 (-(t : Int))), .pv .str (.str round)] [.pv (.st 71) (.agg [.bool (m && !eqI (mag m round n (d * 2 ^ t) : Nat) 0), .int .u64 0, .int .u64 (mag m round n (d * 2 ^ t) : Nat)])] := by
  have := rounded63_of (round := round) (scaled71n (m := m) hn hd h0 ht0 ht) (by have := Nat.div_le_self n (d * 2 ^ t); omega)
  exact this

def noneS : ByteArray := ByteArray.mk #[110, 111, 110, 101]

section
variable {kind round over : ByteArray} {I F : Int}

/-- The least value of a fixed format. -/
theorem least11 (hk : isFix kind) (hv : Ev 16 [.pv (.st 23) (fv kind I F round over)] [.pv .bool (.bool true)]) (hI : 0 ≤ I) (hF : 0 ≤ F) (hIF : I + F ≤ 30) :
    Ev 11 [.pv (.st 23) (fv kind I F round over)] [.pv (.st 25) (qv (mk (-((2 ^ (I + F).toNat : Nat) : Int)) (2 ^ F.toNat : Nat)))] := by
  have hkk := hk
  unfold isFix at hkk
  have ht : 2 ^ (I + F).toNat ≤ 2 ^ 30 := Nat.pow_le_pow_right (by decide) (by omega)
  have ht0 : 0 < 2 ^ (I + F).toNat := Nat.pow_pos (by decide)
  have u0 : ltI (IntKind.u64.wrap (IntKind.i64.wrap (I + F))) 0 = false := by
    rw [wrap_id (n := I + F) (by omega) (by omega), uwrap_id (n := I + F) (by omega) (by omega), ltI_f (by omega)]
  have w1 : IntKind.i64.wrap (-1 * 2 ^ min (IntKind.u64.wrap (IntKind.i64.wrap (I + F))).toNat 64) = -((2 ^ (I + F).toNat : Nat) : Int) := by
    rw [wrap_id (n := I + F) (by omega) (by omega), uwrap_id (n := I + F) (by omega) (by omega), Nat.min_eq_left (by omega)]
    have e : (2 : Int) ^ (I + F).toNat = ((2 ^ (I + F).toNat : Nat) : Int) := by simp
    rw [e, wrap_id (by omega) (by omega)]; omega
  obtain ⟨K1, e1⟩ := hv
  obtain ⟨K2, e2⟩ := value40 (kind := kind) (round := round) (over := over) (I := I) (k := -((2 ^ (I + F).toNat : Nat) : Int)) hF (by omega) (by omega) (by omega)
  simp only [fv] at e1 e2 ⊢
  refine Ev.of (K1 + K2) rfl fun k hk' => ?_
  rw [R11]
  simp only [PV.cell, PV.cells, List.getD_cons_succ, List.getD_cons_zero, e1 k (by omega), okRes, resPV, Ty.eq, PV.toBool, PV.toStr, PV.toInt, hkk, Bool.not_true, cond_true, cond_false, u0, w1, e2 k (by omega), Nat.beq_refl, qv]

theorem greatest12 (hk : isFix kind) (hv : Ev 16 [.pv (.st 23) (fv kind I F round over)] [.pv .bool (.bool true)]) (hI : 0 ≤ I) (hF : 0 ≤ F) (hIF : I + F ≤ 30) :
    Ev 12 [.pv (.st 23) (fv kind I F round over)] [.pv (.st 25) (qv (mk (((2 ^ (I + F).toNat : Nat) : Int) - 1) (2 ^ F.toNat : Nat)))] := by
  have hkk := hk
  unfold isFix at hkk
  have ht : 2 ^ (I + F).toNat ≤ 2 ^ 30 := Nat.pow_le_pow_right (by decide) (by omega)
  have ht0 : 0 < 2 ^ (I + F).toNat := Nat.pow_pos (by decide)
  have u0 : ltI (IntKind.u64.wrap (IntKind.i64.wrap (I + F))) 0 = false := by
    rw [wrap_id (n := I + F) (by omega) (by omega), uwrap_id (n := I + F) (by omega) (by omega), ltI_f (by omega)]
  have w1 : IntKind.i64.wrap (1 * 2 ^ min (IntKind.u64.wrap (IntKind.i64.wrap (I + F))).toNat 64) = ((2 ^ (I + F).toNat : Nat) : Int) := by
    rw [wrap_id (n := I + F) (by omega) (by omega)]; exact shl1i (by omega) (by omega)
  have w2 : IntKind.i64.wrap (((2 ^ (I + F).toNat : Nat) : Int) - 1) = ((2 ^ (I + F).toNat : Nat) : Int) - 1 := wrap_id (by omega) (by omega)
  obtain ⟨K1, e1⟩ := hv
  obtain ⟨K2, e2⟩ := value40 (kind := kind) (round := round) (over := over) (I := I) (k := ((2 ^ (I + F).toNat : Nat) : Int) - 1) hF (by omega) (by omega) (by omega)
  simp only [fv] at e1 e2 ⊢
  refine Ev.of (K1 + K2) rfl fun k hk' => ?_
  rw [R12]
  simp only [PV.cell, PV.cells, List.getD_cons_succ, List.getD_cons_zero, e1 k (by omega), okRes, resPV, Ty.eq, PV.toBool, PV.toStr, PV.toInt, hkk, Bool.not_true, cond_true, cond_false, u0, w1, w2, e2 k (by omega), Nat.beq_refl, qv]

variable {m : Bool} {n d : Nat}

/-- Out of range, with sat. -/
theorem fix57_sat (hk : isFix kind) (hv : Ev 16 [.pv (.st 23) (fv kind I F round satS)] [.pv .bool (.bool true)]) (hI : 0 ≤ I) (hF : 0 ≤ F) (hIF : I + F ≤ 30) (hn : n ≤ 1073741824) (hd : d ≤ 1073741824) (h0 : 0 < d)
    (hout : ¬ (mag m round (n * 2 ^ F.toNat) d < 2 ^ (I + F).toNat ∨ (m = true ∧ mag m round (n * 2 ^ F.toNat) d = 2 ^ (I + F).toNat))) :
    Ev 57 [.pv (.st 23) (fv kind I F round satS), .pv (.st 51) (xv m n d)] [.pv (.st 25) (qv (mk (if m = true then -((2 ^ (I + F).toNat : Nat) : Int) else ((2 ^ (I + F).toNat : Nat) : Int) - 1) (2 ^ F.toNat : Nat)))] := by
  have hp : 2 ^ F.toNat ≤ 2 ^ 30 := Nat.pow_le_pow_right (by decide) (by omega)
  have hnp : n * 2 ^ F.toNat ≤ 1073741824 * 2 ^ 30 := Nat.mul_le_mul hn hp
  have ht : 2 ^ (I + F).toNat ≤ 2 ^ 30 := Nat.pow_le_pow_right (by decide) (by omega)
  have ht0 : 0 < 2 ^ (I + F).toNat := Nat.pow_pos (by decide)
  obtain ⟨K1, h1⟩ := rounded63 (m := m) (round := round) hn hd h0 (s := F.toNat) (by omega)
  rw [show ((F.toNat : Nat) : Int) = F by omega] at h1
  generalize mag m round (n * 2 ^ F.toNat) d = a at *
  obtain ⟨K2, h2⟩ := least11 hk hv hI hF hIF
  obtain ⟨K3, h3⟩ := greatest12 hk hv hI hF hIF
  have hge : 2 ^ (I + F).toNat ≤ a := by
    have : ¬ a < 2 ^ (I + F).toNat := fun h => hout (.inl h)
    omega
  have hms : (satS.data.toList == (ByteArray.mk #[115, 97, 116]).data.toList) = true := by decide
  simp only [xv] at h1 ⊢
  simp only [fv, qv] at h2 h3 ⊢
  refine Ev.of (K1 + K2 + K3) rfl fun k hk' => ?_
  rw [R57]
  simp only [PV.cell, PV.cells, List.getD_cons_succ, List.getD_cons_zero, PV.toInt, PV.toStr, PV.toBool, h1 k (by omega), okRes, resPV, Ty.eq, Nat.beq_refl, cond_true, J57_5_eq, J57_9_eq, h2 k (by omega), h3 k (by omega), hms, decide_true]
  rw [wrap_id (n := I + F) (by omega) (by omega), shl1u (F := I + F) (by omega) (by omega), uwrap_id (n := I + F) (by omega) (by omega), ltI_f (show (0 : Int) ≤ I + F by omega), eqI_t (show (0 : Int) = 0 from rfl), ltI_f (show ((2 ^ (I + F).toNat : Nat) : Int) ≤ (a : Int) by omega), eqI_f (show (a : Int) ≠ 0 by omega)]
  cases m with
  | true =>
    have hne : (a : Int) ≠ ((2 ^ (I + F).toNat : Nat) : Int) := fun e => hout (.inr ⟨rfl, by omega⟩)
    rw [eqI_f hne]; rfl
  | false => rfl

theorem fix57_none (hI : 0 ≤ I) (hF : 0 ≤ F) (hIF : I + F ≤ 30) (hn : n ≤ 1073741824) (hd : d ≤ 1073741824) (h0 : 0 < d)
    (hout : ¬ (mag m round (n * 2 ^ F.toNat) d < 2 ^ (I + F).toNat ∨ (m = true ∧ mag m round (n * 2 ^ F.toNat) d = 2 ^ (I + F).toNat))) :
    Ev 57 [.pv (.st 23) (fv kind I F round noneS), .pv (.st 51) (xv m n d)] [.pv (.st 25) (qv (0, 0))] := by
  have hp : 2 ^ F.toNat ≤ 2 ^ 30 := Nat.pow_le_pow_right (by decide) (by omega)
  have hnp : n * 2 ^ F.toNat ≤ 1073741824 * 2 ^ 30 := Nat.mul_le_mul hn hp
  have ht : 2 ^ (I + F).toNat ≤ 2 ^ 30 := Nat.pow_le_pow_right (by decide) (by omega)
  have ht0 : 0 < 2 ^ (I + F).toNat := Nat.pow_pos (by decide)
  obtain ⟨K1, h1⟩ := rounded63 (m := m) (round := round) hn hd h0 (s := F.toNat) (by omega)
  rw [show ((F.toNat : Nat) : Int) = F by omega] at h1
  generalize mag m round (n * 2 ^ F.toNat) d = a at *
  have hge : 2 ^ (I + F).toNat ≤ a := by
    have : ¬ a < 2 ^ (I + F).toNat := fun h => hout (.inl h)
    omega
  have hms : (noneS.data.toList == (ByteArray.mk #[115, 97, 116]).data.toList) = false := by decide
  have hmw : (noneS.data.toList == (ByteArray.mk #[119, 114, 97, 112]).data.toList) = false := by decide
  simp only [xv] at h1 ⊢
  simp only [fv, qv]
  refine Ev.of K1 rfl fun k hk' => ?_
  rw [R57]
  simp only [PV.cell, PV.cells, List.getD_cons_succ, List.getD_cons_zero, PV.toInt, PV.toStr, PV.toBool, h1 k (by omega), okRes, resPV, Ty.eq, Nat.beq_refl, cond_true, J57_5_eq, J57_19_eq, hms, hmw, decide_true]
  rw [wrap_id (n := I + F) (by omega) (by omega), shl1u (F := I + F) (by omega) (by omega), uwrap_id (n := I + F) (by omega) (by omega), ltI_f (show (0 : Int) ≤ I + F by omega), eqI_t (show (0 : Int) = 0 from rfl), ltI_f (show ((2 ^ (I + F).toNat : Nat) : Int) ≤ (a : Int) by omega), eqI_f (show (a : Int) ≠ 0 by omega)]
  cases m with
  | true =>
    have hne : (a : Int) ≠ ((2 ^ (I + F).toNat : Nat) : Int) := fun e => hout (.inr ⟨rfl, by omega⟩)
    rw [eqI_f hne]; rfl
  | false => rfl
end

end Go.V

set_option linter.unusedSimpArgs false
set_option linter.unusedVariables false
set_option maxRecDepth 100000
namespace Go.V
open Go.Proofs

/-- m times 2 to the x, as a fraction. -/
def timesQ (m x : Int) : Int × Int := if 0 ≤ x then mk (m * ((2 ^ x.toNat : Nat) : Int)) 1 else mk m ((2 ^ (-x).toNat : Nat) : Int)

theorem times42 {m x : Int} (m1 : -1073741824 ≤ m) (m2 : m ≤ 1073741824) (x1 : -30 ≤ x) (x2 : x ≤ 30) :
    Ev 42 [.pv (.int .i64) (.int .i64 m), .pv (.int .i64) (.int .i64 x)] [.pv (.st 25) (qv (timesQ m x))] := by
  unfold timesQ
  by_cases hx : 0 ≤ x
  · rw [if_pos hx]
    have hp : 2 ^ x.toNat ≤ 2 ^ 30 := Nat.pow_le_pow_right (by decide) (by omega)
    have hp0 : 0 < 2 ^ x.toNat := Nat.pow_pos (by decide)
    have b1 : m * ((2 ^ x.toNat : Nat) : Int) ≤ 1073741824 * 1073741824 := by
      rcases Int.le_total 0 m with h | h
      · exact Int.mul_le_mul m2 (by omega) (by omega) (by omega)
      · have := Int.mul_nonpos_of_nonpos_of_nonneg h (Int.natCast_nonneg (2 ^ x.toNat)); omega
    have b2 : -(1073741824 * 1073741824) ≤ m * ((2 ^ x.toNat : Nat) : Int) := by
      rcases Int.le_total 0 m with h | h
      · have := Int.mul_nonneg h (Int.natCast_nonneg (2 ^ x.toNat)); omega
      · have h' : -m * ((2 ^ x.toNat : Nat) : Int) ≤ 1073741824 * 1073741824 := Int.mul_le_mul (by omega) (by omega) (by omega) (by omega)
        rw [Int.neg_mul] at h'; omega
    obtain ⟨K, h⟩ := make39 (n := m * ((2 ^ x.toNat : Nat) : Int)) (d := 1) (by omega) (by omega) (by omega) (by omega)
    have e : IntKind.i64.wrap (m * 2 ^ min (IntKind.u64.wrap x).toNat 64) = m * ((2 ^ x.toNat : Nat) : Int) := by
      rw [uwrap_id hx (by omega), Nat.min_eq_left (by omega)]
      have e : (2 : Int) ^ x.toNat = ((2 ^ x.toNat : Nat) : Int) := by simp
      rw [e, wrap_id (by omega) (by omega)]
    refine Ev.of K rfl fun k hk => ?_
    rw [R42]
    simp only [PV.toInt, e, h k hk, okRes, resPV, Ty.eq, Nat.beq_refl, qv, PV.cell, PV.cells, List.getD_cons_succ, List.getD_cons_zero, cond_true]
    rw [leI_t hx, uwrap_id hx (by omega), ltI_f hx]; rfl
  · rw [if_neg hx]
    have hp : 2 ^ (-x).toNat ≤ 2 ^ 30 := Nat.pow_le_pow_right (by decide) (by omega)
    have hp0 : 0 < 2 ^ (-x).toNat := Nat.pow_pos (by decide)
    obtain ⟨K, h⟩ := make39 (n := m) (d := ((2 ^ (-x).toNat : Nat) : Int)) (by omega) (by omega) (by omega) (by omega)
    have e : IntKind.i64.wrap (1 * 2 ^ min (IntKind.u64.wrap (IntKind.i64.wrap (0 - x))).toNat 64) = ((2 ^ (-x).toNat : Nat) : Int) := by
      rw [show (0 : Int) - x = -x by omega, wrap_id (n := -x) (by omega) (by omega)]
      exact shl1i (by omega) (by omega)
    refine Ev.of K rfl fun k hk => ?_
    rw [R42]
    simp only [PV.toInt, J42_3_eq, e, h k hk, okRes, resPV, Ty.eq, Nat.beq_refl, qv, PV.cell, PV.cells, List.getD_cons_succ, List.getD_cons_zero, cond_true]
    rw [leI_f (by omega), show (0 : Int) - x = -x by omega, wrap_id (n := -x) (by omega) (by omega), uwrap_id (n := -x) (by omega) (by omega), ltI_f (show (0 : Int) ≤ -x by omega)]; rfl

/-- Is n / d below 2 to the e? -/
def belowB (n d : Nat) (e : Int) : Bool := if 0 ≤ e then decide (n < d * 2 ^ e.toNat) else decide (n * 2 ^ (-e).toNat < d)

theorem ltI_nat {a b : Nat} : ltI (a : Int) (b : Int) = decide (a < b) := by
  by_cases h : a < b
  · rw [ltI_t (by omega), decide_eq_true h]
  · rw [ltI_f (by omega), decide_eq_false h]

theorem below65 {m : Bool} {n d : Nat} {e : Int} (hn : n ≤ 1073741824) (hd : d ≤ 1073741824) (e1 : -31 ≤ e) (e2 : e ≤ 31) :
    Ev 65 [.pv (.st 51) (xv m n d), .pv (.int .i64) (.int .i64 e)] [.pv .bool (.bool (belowB n d e))] := by
  unfold belowB
  by_cases he : 0 ≤ e
  · rw [if_pos he]
    have hp : 2 ^ e.toNat ≤ 2 ^ 31 := Nat.pow_le_pow_right (by decide) (by omega)
    obtain ⟨K, h⟩ := mul73 (x := d) (y := 2 ^ e.toNat) (by omega) (by omega)
    have ee : IntKind.u64.wrap (1 * 2 ^ min (IntKind.u64.wrap e).toNat 64) = ((2 ^ e.toNat : Nat) : Int) := shl1u he (by omega)
    refine Ev.of K rfl fun k hk => ?_
    rw [R65]
    simp only [xv, PV.cell, PV.cells, List.getD_cons_succ, List.getD_cons_zero, PV.toInt, ee, h k hk, tys49, okMany, okTup, Ty.eq, decide_true, Bool.and_true, Bool.true_and, resAt, nth, aoPV, Nat.beq, Bool.not_false, cond_true]
    rw [leI_t he, uwrap_id he (by omega), ltI_f he, ltI_f (show (0 : Int) ≤ 0 by omega), ltI_nat]; rfl
  · rw [if_neg he]
    have hp : 2 ^ (-e).toNat ≤ 2 ^ 31 := Nat.pow_le_pow_right (by decide) (by omega)
    obtain ⟨K, h⟩ := mul73 (x := n) (y := 2 ^ (-e).toNat) (by omega) (by omega)
    have ee : IntKind.u64.wrap (1 * 2 ^ min (IntKind.u64.wrap (IntKind.i64.wrap (0 - e))).toNat 64) = ((2 ^ (-e).toNat : Nat) : Int) := by
      rw [show (0 : Int) - e = -e by omega, wrap_id (n := -e) (by omega) (by omega)]
      exact shl1u (by omega) (by omega)
    refine Ev.of K rfl fun k hk => ?_
    rw [R65]
    simp only [xv, PV.cell, PV.cells, List.getD_cons_succ, List.getD_cons_zero, PV.toInt, J65_4_eq, ee, h k hk, tys49, okMany, okTup, Ty.eq, decide_true, Bool.and_true, Bool.true_and, resAt, nth, aoPV, Nat.beq, Bool.not_false, cond_true]
    rw [leI_f (by omega), show (0 : Int) - e = -e by omega, wrap_id (n := -e) (by omega) (by omega), uwrap_id (n := -e) (by omega) (by omega), ltI_f (show (0 : Int) ≤ -e by omega), eqI_t (show (0 : Int) = 0 from rfl), ltI_nat]; rfl

end Go.V

set_option linter.unusedSimpArgs false
set_option linter.unusedVariables false
set_option maxRecDepth 100000
namespace Go.V
open Go.Proofs

section
variable {kind round over : ByteArray} {I F : Int} {m : Bool} {n d : Nat}

/-- A round that asks a function, in general. -/
theorem ask_t {call : CallF} {X Y Z : R} {b : Bool} {f : FuncId} {a : List AO} (e : Z = (bif b then
    let c0 := call f a
    bif okRes Ty.bool c0 then
      bif !(resPV c0).toBool then Y else X
    else none else X)) (hb : b = true) (hc : call f a = some ([.pv .bool (.bool true)], [])) : Z = X := by
  rw [e]
  simp only [hb, hc, okRes, resPV, Ty.eq, PV.toBool, Bool.not_true, cond_true, cond_false]
theorem ask_f {call : CallF} {X Y Z : R} {b : Bool} {f : FuncId} {a : List AO} (e : Z = (bif b then
    let c0 := call f a
    bif okRes Ty.bool c0 then
      bif !(resPV c0).toBool then Y else X
    else none else X)) (hb : b = true) (hc : call f a = some ([.pv .bool (.bool false)], [])) : Z = Y := by
  rw [e]
  simp only [hb, hc, okRes, resPV, Ty.eq, PV.toBool, Bool.not_false, cond_true]
theorem float_end (call : CallF) (k j : Nat) (v0 v1 v2 v3 v4 v5 v6 v7 v8 v9 v10 : PV) (h : leI v10.toInt v2.toInt = false) :
    L58_4 gate1 call k (j + 1) v0 v1 v2 v3 v4 v5 v6 v7 v8 v9 v10 = J58_6 gate1 call k v0 v1 v2 v3 v4 v5 v6 v7 v8 v9 v10 := by
  rw [L58_4_succ, h, cond_false]
theorem float_yes (call : CallF) (k j : Nat) (v0 v1 v2 v3 v4 v5 v6 v7 v8 v9 v10 : PV) (h : leI v10.toInt v2.toInt = true)
    (hc : call 65 [AO.pv (Ty.st 51) (PV.agg [v5, v6, v7]), AO.pv (Ty.int IntKind.i64) (PV.int IntKind.i64 (IntKind.i64.wrap (v1.toInt + v10.toInt)))] = some ([.pv .bool (.bool true)], [])) :
    L58_4 gate1 call k (j + 1) v0 v1 v2 v3 v4 v5 v6 v7 v8 v9 v10 = J58_6 gate1 call k v0 v1 v2 v3 v4 v5 v6 v7 v8 v9 v10 :=
  ask_t (L58_4_succ gate1 call k j v0 v1 v2 v3 v4 v5 v6 v7 v8 v9 v10) h hc
theorem float_no (call : CallF) (k j : Nat) (v0 v1 v2 v3 v4 v5 v6 v7 v8 v9 v10 : PV) (h : leI v10.toInt v2.toInt = true)
    (hc : call 65 [AO.pv (Ty.st 51) (PV.agg [v5, v6, v7]), AO.pv (Ty.int IntKind.i64) (PV.int IntKind.i64 (IntKind.i64.wrap (v1.toInt + v10.toInt)))] = some ([.pv .bool (.bool false)], [])) :
    L58_4 gate1 call k (j + 1) v0 v1 v2 v3 v4 v5 v6 v7 v8 v9 v10 = L58_4 gate1 call k j v0 v1 v2 v3 v4 v5 v6 v7 v8 v9 (PV.int IntKind.i64 (IntKind.i64.wrap (v10.toInt + 1))) :=
  (ask_f (L58_4_succ gate1 call k j v0 v1 v2 v3 v4 v5 v6 v7 v8 v9 v10) h hc).trans (J58_5_eq call k j v0 v1 v2 v3 v4 v5 v6 v7 v8 v9 v10)

/-- A loop that counts up to F, or to what it looks for. -/
theorem loop_abs {F : Int} (L : Nat → Nat → Int → R) (J : Nat → Int → R) (p : Int → Bool)
    (hend : ∀ k j t, F < t → L k (j + 1) t = J k t)
    (hyes : ∀ t, -F ≤ t → t ≤ F → p t = true → ∃ K, ∀ k j, K ≤ k → L k (j + 1) t = J k t)
    (hno : ∀ t, -F ≤ t → t ≤ F → p t = false → ∃ K, ∀ k j, K ≤ k → L k (j + 1) t = L k j (t + 1)) :
    ∀ (r : Nat) (t : Int), t + r = F + 1 → -F ≤ t → ∃ t', t ≤ t' ∧ t' ≤ F + 1 ∧ (∀ i, t ≤ i → i < t' → p i = false) ∧ (t' ≤ F → p t' = true) ∧
      ∃ K, ∀ k n', K ≤ k → K ≤ n' → L k n' t = J k t' := by
  intro r
  induction r with
  | zero =>
    intro t ht _
    refine ⟨t, Int.le_refl _, by omega, fun i h1 h2 => by omega, fun h => by omega, 1, fun k n' _ hn' => ?_⟩
    obtain ⟨j, rfl⟩ : ∃ j, n' = j + 1 := ⟨n' - 1, by omega⟩
    exact hend k j t (by omega)
  | succ r ih =>
    intro t ht h0
    cases hb : p t with
    | true =>
      obtain ⟨K1, e1⟩ := hyes t h0 (by omega) hb
      refine ⟨t, Int.le_refl _, by omega, fun i h1 h2 => by omega, fun _ => hb, K1 + 1, fun k n' hk hn' => ?_⟩
      obtain ⟨j, rfl⟩ : ∃ j, n' = j + 1 := ⟨n' - 1, by omega⟩
      exact e1 k j (by omega)
    | false =>
      obtain ⟨K1, e1⟩ := hno t h0 (by omega) hb
      obtain ⟨t', q1, q2, q3, q4, K2, e2⟩ := ih (t + 1) (by omega) (by omega)
      refine ⟨t', by omega, q2, fun i h1 h2 => ?_, q4, K1 + K2 + 1, fun k n' hk hn' => ?_⟩
      · by_cases hi : i = t
        · rw [hi]; exact hb
        · exact q3 i (by omega) h2
      · obtain ⟨j, rfl⟩ : ∃ j, n' = j + 1 := ⟨n' - 1, by omega⟩
        rw [e1 k j (by omega)]
        exact e2 k j (by omega) (by omega)

/-- The loop over the exponents ends at the least one that fits. -/
theorem float_loop (hI : 1 ≤ I) (hI2 : I ≤ 24) (hF : 0 ≤ F) (hF2 : F ≤ 20)
    (hb : ∀ t, -F ≤ t → t ≤ F → Ev 65 [.pv (.st 51) (xv m n d), .pv (.int .i64) (.int .i64 (I + t))] [.pv .bool (.bool (belowB n d (I + t)))]) (v8 v9 : PV) :
    ∃ t', -F ≤ t' ∧ t' ≤ F + 1 ∧ (∀ i, -F ≤ i → i < t' → belowB n d (I + i) = false) ∧ (t' ≤ F → belowB n d (I + t') = true) ∧
      ∃ K, ∀ k n', K ≤ k → K ≤ n' → L58_4 gate1 (EG k) k n' (.str kind) (.int .i64 I) (.int .i64 F) (.str round) (.str over) (.bool m) (.int .u64 n) (.int .u64 d) v8 v9 (.int .i64 (-F)) =
        J58_6 gate1 (EG k) k (.str kind) (.int .i64 I) (.int .i64 F) (.str round) (.str over) (.bool m) (.int .u64 n) (.int .u64 d) v8 v9 (.int .i64 t') := by
  have ask : ∀ t, -F ≤ t → t ≤ F → ∃ K, ∀ k, K ≤ k → EG k 65 [AO.pv (Ty.st 51) (PV.agg [.bool m, .int .u64 n, .int .u64 d]), AO.pv (Ty.int IntKind.i64) (PV.int IntKind.i64 (IntKind.i64.wrap ((PV.int .i64 I).toInt + (PV.int .i64 t).toInt)))] = some ([.pv .bool (.bool (belowB n d (I + t)))], []) := by
    intro t h1 h2
    obtain ⟨K1, e1⟩ := hb t h1 h2
    refine ⟨K1, fun k hk => ?_⟩
    simp only [PV.toInt]
    rw [wrap_id (n := I + t) (by omega) (by omega)]
    exact e1 k hk
  exact loop_abs (F := F) (fun k n' t => L58_4 gate1 (EG k) k n' (.str kind) (.int .i64 I) (.int .i64 F) (.str round) (.str over) (.bool m) (.int .u64 n) (.int .u64 d) v8 v9 (.int .i64 t))
    (fun k t => J58_6 gate1 (EG k) k (.str kind) (.int .i64 I) (.int .i64 F) (.str round) (.str over) (.bool m) (.int .u64 n) (.int .u64 d) v8 v9 (.int .i64 t))
    (fun t => belowB n d (I + t))
    (fun k j t h => float_end _ k j _ _ _ _ _ _ _ _ _ _ _ (leI_f h))
    (fun t h1 h2 hp => by
      obtain ⟨K, e⟩ := ask t h1 h2
      rw [show belowB n d (I + t) = true from hp] at e
      exact ⟨K, fun k j hk => float_yes _ k j _ _ _ _ _ _ _ _ _ _ _ (leI_t h2) (e k hk)⟩)
    (fun t h1 h2 hp => by
      obtain ⟨K, e⟩ := ask t h1 h2
      rw [show belowB n d (I + t) = false from hp] at e
      refine ⟨K, fun k j hk => ?_⟩
      have := float_no (EG k) k j (.str kind) (.int .i64 I) (.int .i64 F) (.str round) (.str over) (.bool m) (.int .u64 n) (.int .u64 d) v8 v9 (.int .i64 t) (leI_t h2) (e k hk)
      rw [show IntKind.i64.wrap ((PV.int .i64 t).toInt + 1) = t + 1 from wrap_id (n := t + 1) (by omega) (by omega)] at this
      exact this)
    (F + F + 1).toNat (-F) (by omega) (Int.le_refl _)

/-- The size that a number is rounded to at an exponent. -/
def magF (m : Bool) (round : ByteArray) (n d : Nat) (t : Int) : Nat := mag m round (n * 2 ^ (-t).toNat) (d * 2 ^ t.toNat)

theorem roundedF {t : Int} (hn : n ≤ 1073741824) (hd : d ≤ 1073741824) (h0 : 0 < d) (t1 : -30 ≤ t) (t2 : t ≤ 30) :
    Ev 63 [.pv (.st 51) (xv m n d), .pv (.int .i64) (.int .i64 (-t)), .pv .str (.str round)] [.pv (.st 71) (.agg [.bool (m && !eqI (magF m round n d t : Nat) 0), .int .u64 0, .int .u64 (magF m round n d t : Nat)])] := by
  unfold magF
  by_cases h : 0 < t
  · have := rounded63n (m := m) (round := round) hn hd h0 (t := t.toNat) (by omega) (by omega)
    rw [show ((t.toNat : Nat) : Int) = t by omega] at this
    rw [show (-t).toNat = 0 by omega, Nat.pow_zero, Nat.mul_one]
    exact this
  · have := rounded63 (m := m) (round := round) hn hd h0 (s := (-t).toNat) (by omega)
    rw [show (((-t).toNat : Nat) : Int) = -t by omega] at this
    rw [show t.toNat = 0 by omega, Nat.pow_zero, Nat.mul_one]
    exact this

theorem magF_le {t : Int} (hn : n ≤ 1073741824) (t1 : -30 ≤ t) : magF m round n d t ≤ 1073741824 * 1073741824 + 1 := by
  unfold magF
  have h := mag_le (m := m) (round := round) (n := n * 2 ^ (-t).toNat) (d := d * 2 ^ t.toNat)
  have hp : 2 ^ (-t).toNat ≤ 2 ^ 30 := Nat.pow_le_pow_right (by decide) (by omega)
  have : n * 2 ^ (-t).toNat ≤ 1073741824 * 2 ^ 30 := Nat.mul_le_mul hn hp
  omega
end
end Go.V

set_option linter.unusedSimpArgs false
set_option linter.unusedVariables false
set_option maxRecDepth 100000
namespace Go.V
open Go.Proofs

section
variable {kind round over : ByteArray} {I F : Int}

def sFix (s : ByteArray) : Bool := s.data.toList == (ByteArray.mk #[102, 105, 120]).data.toList
def sFloat (s : ByteArray) : Bool := s.data.toList == (ByteArray.mk #[102, 108, 111, 97, 116]).data.toList
def sFloor (s : ByteArray) : Bool := s.data.toList == (ByteArray.mk #[102, 108, 111, 111, 114]).data.toList
def sNear (s : ByteArray) : Bool := s.data.toList == (ByteArray.mk #[110, 101, 97, 114]).data.toList
def sZero (s : ByteArray) : Bool := s.data.toList == (ByteArray.mk #[122, 101, 114, 111]).data.toList
def sSat (s : ByteArray) : Bool := s.data.toList == (ByteArray.mk #[115, 97, 116]).data.toList
def sNone (s : ByteArray) : Bool := s.data.toList == (ByteArray.mk #[110, 111, 110, 101]).data.toList
def sWrap (s : ByteArray) : Bool := s.data.toList == (ByteArray.mk #[119, 114, 97, 112]).data.toList

def bFl (I F : Int) : Bool := leI 1 I && (leI I 24 && (leI 0 F && (leI F 20 && leI (IntKind.i64.wrap (I + F)) 30)))
def bKind (kind : ByteArray) (I F : Int) : Bool := bif sFix kind then b13 I F else bif sFloat kind then bFl I F else false
/-- Is a format one? -/
def validB (kind round over : ByteArray) (I F : Int) : Bool :=
  bif (sFloor round || (sNear round || sZero round)) then
    (bif sSat over then bKind kind I F else bif sNone over then bKind kind I F else bif sWrap over then (bif !sFix kind then false else bKind kind I F) else false)
  else false

theorem j1613 (call : CallF) (k : Nat) (v3 v4 : PV) : J16_13 gate1 call k (.str kind) (.int .i64 I) (.int .i64 F) v3 v4 = some ([.pv .bool (.bool (bKind kind I F))], []) := by
  rw [J16_13_eq, J16_18_eq]
  simp only [PV.toStr, PV.toInt, bKind, b13, bFl, sFix, sFloat]
  generalize (kind.data.toList == (ByteArray.mk #[102, 105, 120]).data.toList) = A
  generalize (kind.data.toList == (ByteArray.mk #[102, 108, 111, 97, 116]).data.toList) = B
  cases A
  · cases B
    · rfl
    · simp only [cond_true, cond_false]
      cases leI 1 I <;> cases leI I 24 <;> cases leI 0 F <;> cases leI F 20 <;> rfl
  · simp only [cond_true]
    cases leI 0 I <;> cases leI 0 F <;> cases leI I 30 <;> cases leI F 30 <;> rfl

theorem j166 (call : CallF) (k : Nat) (v3 : PV) : J16_6 gate1 call k (.str kind) (.int .i64 I) (.int .i64 F) v3 (.str over) =
    some ([.pv .bool (.bool (bif sSat over then bKind kind I F else bif sNone over then bKind kind I F else bif sWrap over then (bif !sFix kind then false else bKind kind I F) else false))], []) := by
  rw [J16_6_eq, J16_10_eq, j1613]
  simp only [PV.toStr, sSat, sNone, sWrap, sFix]
  generalize (over.data.toList == (ByteArray.mk #[115, 97, 116]).data.toList) = A
  generalize (over.data.toList == (ByteArray.mk #[110, 111, 110, 101]).data.toList) = B
  generalize (over.data.toList == (ByteArray.mk #[119, 114, 97, 112]).data.toList) = C
  generalize (kind.data.toList == (ByteArray.mk #[102, 105, 120]).data.toList) = X
  cases A <;> cases B <;> cases C <;> cases X <;> rfl

theorem valid16b (kind round over : ByteArray) (I F : Int) : Ev 16 [.pv (.st 23) (fv kind I F round over)] [.pv .bool (.bool (validB kind round over I F))] := by
  refine Ev.of 0 rfl fun k _ => ?_
  rw [R16]
  simp only [fv, PV.cell, PV.cells, List.getD_cons_succ, List.getD_cons_zero, PV.toInt, PV.toStr, j166, J16_2_eq, validB, sFloor, sNear, sZero]
  generalize (round.data.toList == (ByteArray.mk #[102, 108, 111, 111, 114]).data.toList) = A
  generalize (round.data.toList == (ByteArray.mk #[110, 101, 97, 114]).data.toList) = B
  generalize (round.data.toList == (ByteArray.mk #[122, 101, 114, 111]).data.toList) = C
  cases A <;> cases B <;> cases C <;> rfl

theorem b13_facts (h : b13 I F = true) : 0 ≤ I ∧ 0 ≤ F ∧ I + F ≤ 30 := by
  simp only [b13, Bool.and_eq_true] at h
  obtain ⟨a1, a2, a3, a4, a5⟩ := h
  have a1 : 0 ≤ I := of_decide_eq_true a1
  have a2 : 0 ≤ F := of_decide_eq_true a2
  have a3 : I ≤ 30 := of_decide_eq_true a3
  have a4 : F ≤ 30 := of_decide_eq_true a4
  have a5 : IntKind.i64.wrap (I + F) ≤ 30 := of_decide_eq_true a5
  rw [wrap_id (by omega) (by omega)] at a5
  exact ⟨a1, a2, a5⟩

theorem bFl_facts (h : bFl I F = true) : 1 ≤ I ∧ I ≤ 24 ∧ 0 ≤ F ∧ F ≤ 20 ∧ I + F ≤ 30 := by
  simp only [bFl, Bool.and_eq_true] at h
  obtain ⟨a1, a2, a3, a4, a5⟩ := h
  have a1 : 1 ≤ I := of_decide_eq_true a1
  have a2 : I ≤ 24 := of_decide_eq_true a2
  have a3 : 0 ≤ F := of_decide_eq_true a3
  have a4 : F ≤ 20 := of_decide_eq_true a4
  have a5 : IntKind.i64.wrap (I + F) ≤ 30 := of_decide_eq_true a5
  rw [wrap_id (by omega) (by omega)] at a5
  exact ⟨a1, a2, a3, a4, a5⟩

theorem str_of {s t : ByteArray} (h : (s.data.toList == t.data.toList) = true) : s = t := by
  have := eq_of_beq h
  cases s with | mk a => cases t with | mk b =>
  congr 1
  exact Array.toList_inj.1 this

/-- What a format that is one is. -/
theorem validB_facts (h : validB kind round over I F = true) :
    (sFloor round || (sNear round || sZero round)) = true ∧
    ((sFix kind = true ∧ (0 ≤ I ∧ 0 ≤ F ∧ I + F ≤ 30) ∧ (over = satS ∨ over = noneS ∨ over = wrapS)) ∨
     (sFix kind = false ∧ (1 ≤ I ∧ I ≤ 24 ∧ 0 ≤ F ∧ F ≤ 20 ∧ I + F ≤ 30) ∧ (over = satS ∨ over = noneS))) := by
  unfold validB at h
  have h1 : (sFloor round || (sNear round || sZero round)) = true := by
    cases hc : (sFloor round || (sNear round || sZero round)) with
    | true => rfl
    | false => rw [hc] at h; cases h
  refine ⟨h1, ?_⟩
  rw [h1, cond_true] at h
  have kindT : bKind kind I F = true → sFix kind = true → (0 ≤ I ∧ 0 ≤ F ∧ I + F ≤ 30) := by
    intro hb hk
    unfold bKind at hb
    rw [hk, cond_true] at hb
    exact b13_facts hb
  have kindF : bKind kind I F = true → sFix kind = false → (1 ≤ I ∧ I ≤ 24 ∧ 0 ≤ F ∧ F ≤ 20 ∧ I + F ≤ 30) := by
    intro hb hk
    unfold bKind at hb
    rw [hk, cond_false] at hb
    cases hf : sFloat kind with
    | true => rw [hf, cond_true] at hb; exact bFl_facts hb
    | false => rw [hf] at hb; cases hb
  cases hs : sSat over with
  | true =>
    rw [hs, cond_true] at h
    have e := str_of (t := satS) hs
    cases hk : sFix kind with
    | true => exact .inl ⟨rfl, kindT h hk, .inl e⟩
    | false => exact .inr ⟨rfl, kindF h hk, .inl e⟩
  | false =>
    rw [hs, cond_false] at h
    cases hn : sNone over with
    | true =>
      rw [hn, cond_true] at h
      have e := str_of (t := noneS) hn
      cases hk : sFix kind with
      | true => exact .inl ⟨rfl, kindT h hk, .inr (.inl e)⟩
      | false => exact .inr ⟨rfl, kindF h hk, .inr e⟩
    | false =>
      rw [hn, cond_false] at h
      cases hw : sWrap over with
      | true =>
        rw [hw, cond_true] at h
        have e := str_of (t := wrapS) hw
        cases hk : sFix kind with
        | true => rw [hk] at h; exact .inl ⟨rfl, kindT h hk, .inr (.inr e)⟩
        | false => rw [hk] at h; cases h
      | false => rw [hw] at h; cases h
end
end Go.V

set_option linter.unusedSimpArgs false
set_option linter.unusedVariables false
set_option maxRecDepth 100000
namespace Go.V
open Go.Proofs

section
variable {m : Bool} {round : ByteArray} {n d n' d' : Nat}

theorem half_mono {r d r' d' : Nat} (hd : 0 < d) (hd' : 0 < d') (h : r * d' ≤ r' * d) : half r d ≤ half r' d' := by
  have z : r' = 0 → r = 0 := fun e => by
    rw [e, Nat.zero_mul] at h
    rcases Nat.mul_eq_zero.1 (Nat.le_zero.1 h) with h | h
    · exact h
    · omega
  have l : 2 * r' < d' → 2 * r < d := fun e => by
    have h1 : 2 * r * d' ≤ 2 * r' * d := by rw [Nat.mul_assoc, Nat.mul_assoc]; omega
    have h2 : 2 * r' * d < d' * d := Nat.mul_lt_mul_of_pos_right e hd
    rw [Nat.mul_comm d' d] at h2
    exact Nat.lt_of_mul_lt_mul_right (Nat.lt_of_le_of_lt h1 h2)
  have q : 2 * r' ≤ d' → 2 * r ≤ d := fun e => by
    have h1 : 2 * r * d' ≤ 2 * r' * d := by rw [Nat.mul_assoc, Nat.mul_assoc]; omega
    have h2 : 2 * r' * d ≤ d' * d := Nat.mul_le_mul_right d e
    rw [Nat.mul_comm d' d] at h2
    exact Nat.le_of_mul_le_mul_right (Nat.le_trans h1 h2) hd'
  unfold half
  by_cases a : r' = 0
  · rw [if_pos a, if_pos (z a)]; exact Int.le_refl _
  · rw [if_neg a]
    by_cases b : 2 * r' < d'
    · rw [if_pos b]
      have := l b
      split <;> simp [this]
    · rw [if_neg b]
      by_cases c : 2 * r' = d'
      · rw [if_pos c]
        have := q (by omega)
        split
        · decide
        · split
          · decide
          · rw [if_pos (by omega)]; decide
      · rw [if_neg c]
        split
        · decide
        · split
          · decide
          · split <;> decide

theorem half_range {r d : Nat} : 0 ≤ half r d ∧ half r d ≤ 3 := by
  unfold half
  split
  · decide
  · split
    · decide
    · split <;> decide

theorem upB_mono {q : Nat} {h h' : Int} (h3 : h' ≤ 3) (hh : h ≤ h') (hu : upB m round q h = true) : upB m round q h' = true := by
  unfold upB at hu ⊢
  cases hf : (round.data.toList == (ByteArray.mk #[102, 108, 111, 111, 114]).data.toList) with
  | true =>
    rw [hf, cond_true, Bool.and_eq_true] at hu
    rw [cond_true, Bool.and_eq_true]
    have : 0 < h := of_decide_eq_true hu.2
    exact ⟨hu.1, ltI_t (by omega)⟩
  | false =>
    rw [hf, cond_false] at hu
    rw [cond_false]
    cases hn : (round.data.toList == (ByteArray.mk #[110, 101, 97, 114]).data.toList) with
    | true =>
      rw [hn, cond_true, Bool.or_eq_true, Bool.and_eq_true] at hu
      rw [cond_true, Bool.or_eq_true, Bool.and_eq_true]
      rcases hu with hu | ⟨hu, ho⟩
      · have : h = 3 := of_decide_eq_true hu
        exact .inl (eqI_t (by omega))
      · have : h = 2 := of_decide_eq_true hu
        by_cases h4 : h' = 2
        · exact .inr ⟨eqI_t h4, ho⟩
        · exact .inl (eqI_t (by omega))
    | false => rw [hn] at hu; cases hu

/-- Rounding keeps the order. -/
theorem mag_mono (hd : 0 < d) (hd' : 0 < d') (h : n * d' ≤ n' * d) : mag m round n d ≤ mag m round n' d' := by
  have hq : n / d ≤ n' / d' := by
    rw [Nat.le_div_iff_mul_le hd']
    have h1 : n / d * d' * d ≤ n * d' := by
      rw [Nat.mul_right_comm]
      exact Nat.mul_le_mul_right d' (Nat.div_mul_le_self n d)
    exact Nat.le_of_mul_le_mul_right (Nat.le_trans h1 h) hd
  unfold mag
  by_cases he : n / d = n' / d'
  · rw [← he]
    have hr : n % d * d' ≤ n' % d' * d := by
      have e1 := Nat.div_add_mod n d
      have e2 := Nat.div_add_mod n' d'
      rw [← he] at e2
      rw [← e1, ← e2] at h
      rw [Nat.add_mul, Nat.add_mul] at h
      have e3 : d * (n / d) * d' = d' * (n / d) * d := by rw [Nat.mul_right_comm d, Nat.mul_right_comm d', Nat.mul_comm d d']
      omega
    have hm := half_mono hd hd' hr
    cases hu : upB m round (n / d) (half (n % d) d) with
    | false => simp only [cond_false]; exact Nat.le_add_right _ _
    | true => rw [upB_mono half_range.2 hm hu]; exact Nat.le_refl _
  · have : n / d + 1 ≤ n' / d' := by omega
    cases upB m round (n / d) (half (n % d) d) with
    | false => simp only [cond_false]; omega
    | true => simp only [cond_true]; omega

theorem mag_int {k : Nat} (hd : 0 < d) : mag m round (k * d) d = k := by
  unfold mag
  rw [Nat.mul_div_cancel _ hd, Nat.mul_mod_left, half_zero, upB_zero]
  rfl

theorem mag_eq (hd : 0 < d) (hd' : 0 < d') (h : n * d' = n' * d) : mag m round n d = mag m round n' d' :=
  Nat.le_antisymm (mag_mono hd hd' (by omega)) (mag_mono hd' hd (by omega))

theorem mag_scale {c : Nat} (hd : 0 < d) (hc : 0 < c) : mag m round (n * c) (d * c) = mag m round n d :=
  mag_eq (Nat.mul_pos hd hc) hd (by rw [Nat.mul_right_comm, Nat.mul_assoc])

/-- What is at most a whole number is rounded to that or less. -/
theorem mag_le_int {k : Nat} (hd : 0 < d) (h : n ≤ k * d) : mag m round n d ≤ k := by
  have h1 : mag m round n d ≤ mag m round (k * d) d := mag_mono hd hd (Nat.mul_le_mul_right d h)
  rwa [mag_int hd] at h1
theorem int_le_mag {k : Nat} (hd : 0 < d) (h : k * d ≤ n) : k ≤ mag m round n d := by
  have h1 : mag m round (k * d) d ≤ mag m round n d := mag_mono hd hd (Nat.mul_le_mul_right d h)
  rwa [mag_int hd] at h1

/-- How far off a rounded size is. -/
theorem mag_off (hd : 0 < d) : n ≤ mag m round n d * d + d ∧ mag m round n d * d ≤ n + d := by
  unfold mag
  have e1 := Nat.div_add_mod n d
  have e2 := Nat.mod_lt n hd
  rw [Nat.mul_comm] at e1
  cases upB m round (n / d) (half (n % d) d) with
  | false => simp only [cond_false, Nat.add_zero]; omega
  | true => simp only [cond_true, Nat.add_mul, Nat.one_mul]; omega
theorem mag_near_off (hd : 0 < d) (hr : sFloor round = false) (hr2 : sNear round = true) : 2 * n ≤ 2 * (mag m round n d * d) + d ∧ 2 * (mag m round n d * d) ≤ 2 * n + d := by
  rw [mag_near hr hr2 hd]
  have e1 := Nat.div_add_mod n d
  have e2 := Nat.mod_lt n hd
  rw [Nat.mul_comm] at e1
  split
  · rw [Nat.add_mul, Nat.one_mul]; omega
  · rw [Nat.add_zero]; omega
end

/-- Signed rounding. -/
theorem Kof_def {round : ByteArray} {F N D : Int} : Kof round F N D = sK (ltI N 0) (mag (ltI N 0) round (N.natAbs * 2 ^ F.toNat) D.natAbs) := rfl

theorem Kof_mono {round : ByteArray} {F N D N' D' : Int} (hD : 1 ≤ D) (hD' : 1 ≤ D') (h : N * D' ≤ N' * D) : Kof round F N D ≤ Kof round F N' D' := by
  have p : 0 < 2 ^ F.toNat := Nat.pow_pos (by decide)
  have key : ∀ {a b c e : Int}, 0 ≤ a → 0 ≤ c → 1 ≤ b → 1 ≤ e → a * e ≤ c * b → a.natAbs * 2 ^ F.toNat * e.natAbs ≤ c.natAbs * 2 ^ F.toNat * b.natAbs := by
    intro a b c e ha hc hb he h
    rw [Nat.mul_right_comm, Nat.mul_right_comm c.natAbs]
    refine Nat.mul_le_mul_right _ ?_
    obtain ⟨a, rfl⟩ := Int.eq_ofNat_of_zero_le ha
    obtain ⟨b, rfl⟩ := Int.eq_ofNat_of_zero_le (show 0 ≤ b by omega)
    obtain ⟨c, rfl⟩ := Int.eq_ofNat_of_zero_le hc
    obtain ⟨e, rfl⟩ := Int.eq_ofNat_of_zero_le (show 0 ≤ e by omega)
    exact_mod_cast h
  rw [Kof_def, Kof_def]
  by_cases a : N < 0
  · by_cases b : N' < 0
    · rw [ltI_t a, ltI_t b]
      unfold sK
      rw [if_pos rfl, if_pos rfl]
      have := key (a := -N') (b := D') (c := -N) (e := D) (by omega) (by omega) hD' hD (by rw [Int.neg_mul, Int.neg_mul]; omega)
      rw [Int.natAbs_neg, Int.natAbs_neg] at this
      have := mag_mono (m := true) (round := round) (by omega : 0 < D'.natAbs) (by omega : 0 < D.natAbs) this
      omega
    · rw [ltI_t a, ltI_f (by omega)]
      unfold sK
      rw [if_pos rfl, if_neg (by decide)]
      omega
  · by_cases b : N' < 0
    · exfalso
      have h1 := Int.mul_nonneg (show 0 ≤ N by omega) (show 0 ≤ D' by omega)
      have h2 := Int.mul_neg_of_neg_of_pos b (show 0 < D by omega)
      omega
    · rw [ltI_f (by omega), ltI_f (by omega)]
      unfold sK
      rw [if_neg (by decide), if_neg (by decide)]
      have := mag_mono (m := false) (round := round) (by omega : 0 < D.natAbs) (by omega : 0 < D'.natAbs) (key (by omega) (by omega) hD hD' h)
      omega

/-- How far off: by D at most (near: half of it). -/
theorem Kof_off {round : ByteArray} {F N D : Int} (hD : 1 ≤ D) : N * ((2 ^ F.toNat : Nat) : Int) ≤ Kof round F N D * D + D ∧ Kof round F N D * D ≤ N * ((2 ^ F.toNat : Nat) : Int) + D := by
  obtain ⟨D, rfl⟩ := Int.eq_ofNat_of_zero_le (show 0 ≤ D by omega)
  have h := mag_off (m := ltI N 0) (round := round) (n := N.natAbs * 2 ^ F.toNat) (d := D) (by omega)
  rw [Kof_def]
  simp only [Int.natAbs_natCast]
  generalize mag (ltI N 0) round (N.natAbs * 2 ^ F.toNat) D = M at h
  have h1 : ((N.natAbs * 2 ^ F.toNat : Nat) : Int) ≤ ((M * D + D : Nat) : Int) := by exact_mod_cast h.1
  have h2 : ((M * D : Nat) : Int) ≤ ((N.natAbs * 2 ^ F.toNat + D : Nat) : Int) := by exact_mod_cast h.2
  rw [Int.natCast_mul, Int.natCast_add, Int.natCast_mul] at h1
  rw [Int.natCast_mul, Int.natCast_add, Int.natCast_mul] at h2
  by_cases a : N < 0
  · rw [ltI_t a]; unfold sK; rw [if_pos rfl]
    rw [show ((N.natAbs : Nat) : Int) = -N by omega, Int.neg_mul] at h1 h2
    rw [Int.neg_mul]; omega
  · rw [ltI_f (by omega)]; unfold sK; rw [if_neg (by decide)]
    rw [show ((N.natAbs : Nat) : Int) = N by omega] at h1 h2
    omega
theorem Kof_near_off {round : ByteArray} {F N D : Int} (hD : 1 ≤ D) (hr : sFloor round = false) (hr2 : sNear round = true) :
    2 * (N * ((2 ^ F.toNat : Nat) : Int)) ≤ 2 * (Kof round F N D * D) + D ∧ 2 * (Kof round F N D * D) ≤ 2 * (N * ((2 ^ F.toNat : Nat) : Int)) + D := by
  obtain ⟨D, rfl⟩ := Int.eq_ofNat_of_zero_le (show 0 ≤ D by omega)
  have h := mag_near_off (m := ltI N 0) (round := round) (n := N.natAbs * 2 ^ F.toNat) (d := D) (by omega) hr hr2
  rw [Kof_def]
  simp only [Int.natAbs_natCast]
  generalize mag (ltI N 0) round (N.natAbs * 2 ^ F.toNat) D = M at h
  have h1 : ((2 * (N.natAbs * 2 ^ F.toNat) : Nat) : Int) ≤ ((2 * (M * D) + D : Nat) : Int) := by exact_mod_cast h.1
  have h2 : ((2 * (M * D) : Nat) : Int) ≤ ((2 * (N.natAbs * 2 ^ F.toNat) + D : Nat) : Int) := by exact_mod_cast h.2
  simp only [Int.natCast_mul, Int.natCast_add] at h1 h2
  by_cases a : N < 0
  · rw [ltI_t a]; unfold sK; rw [if_pos rfl]
    rw [show ((N.natAbs : Nat) : Int) = -N by omega, Int.neg_mul] at h1 h2
    rw [Int.neg_mul]; simp at h1 h2 ⊢; omega
  · rw [ltI_f (by omega)]; unfold sK; rw [if_neg (by decide)]
    rw [show ((N.natAbs : Nat) : Int) = N by omega] at h1 h2
    simp at h1 h2 ⊢; omega
end Go.V

set_option linter.unusedSimpArgs false
set_option linter.unusedVariables false
set_option maxRecDepth 100000
namespace Go.V
open Go.Proofs

/-- From some fuel on. -/
def Evt (p : Nat → Prop) : Prop := ∃ K, ∀ k, K ≤ k → p k
theorem Evt.and {p q : Nat → Prop} : Evt p → Evt q → Evt (fun k => p k ∧ q k)
  | ⟨K, h⟩, ⟨L, g⟩ => ⟨K + L, fun k hk => ⟨h k (by omega), g k (by omega)⟩⟩
theorem Evt.true : Evt (fun _ => True) := ⟨0, fun _ _ => trivial⟩
theorem Ev.evt {f : FuncId} {az r : List AO} (h : Ev f az r) : Evt (fun k => EG k f az = some (r, [])) := h
theorem Evt.ev {f : FuncId} {az r : List AO} {p : Nat → Prop} (h : Evt p) (hf : Nat.beq f 72 = false) (g : ∀ k, p k → evStep Tryd.prog H0 (EG k) k f az = some (r, [])) : Ev f az r := by
  obtain ⟨K, h⟩ := h
  exact Ev.of K hf fun k hk => g k (h k hk)
theorem Evt.pos {p : Nat → Prop} (h : Evt p) : Evt (fun k => p k ∧ 0 < k) := h.and ⟨1, fun _ h => h⟩

theorem mk_pos {n d : Int} (hd : 1 ≤ d) (g : Nat) (hg : g = Nat.gcd d.natAbs n.natAbs) :
    n.tdiv (g : Int) = (if n < 0 then -((n.natAbs / g : Nat) : Int) else ((n.natAbs / g : Nat) : Int)) ∧ d.tdiv (g : Int) = ((d.natAbs / g : Nat) : Int) := by
  have hg0 : 0 < g := by rw [hg]; exact Nat.gcd_pos_of_pos_left _ (by omega)
  constructor
  · by_cases hn : n < 0
    · rw [if_pos hn]
      obtain ⟨m, rfl⟩ : ∃ m : Nat, n = -(m : Int) := ⟨n.natAbs, by omega⟩
      rw [Int.neg_tdiv, Int.natAbs_neg, Int.natAbs_natCast, Int.tdiv_eq_ediv_of_nonneg (Int.natCast_nonneg _)]
      simp
    · rw [if_neg hn]
      obtain ⟨m, rfl⟩ : ∃ m : Nat, n = (m : Int) := ⟨n.natAbs, by omega⟩
      rw [Int.natAbs_natCast, Int.tdiv_eq_ediv_of_nonneg (Int.natCast_nonneg _)]
      simp
  · obtain ⟨m, rfl⟩ : ∃ m : Nat, d = (m : Int) := ⟨d.natAbs, by omega⟩
    rw [Int.natAbs_natCast, Int.tdiv_eq_ediv_of_nonneg (Int.natCast_nonneg _)]
    simp

theorem isq_mk {n d : Int} (hd : 1 ≤ d) (g : Nat) (hg : g = Nat.gcd d.natAbs n.natAbs) :
    (if isq (n.tdiv (g : Int)) (d.tdiv (g : Int)) = true then (n.tdiv (g : Int), d.tdiv (g : Int)) else (0, 0)) = mk n d := by
  obtain ⟨e1, e2⟩ := mk_pos hd g hg
  have hg0 : 0 < g := by rw [hg]; exact Nat.gcd_pos_of_pos_left _ (by omega)
  rw [e1, e2]
  unfold mk
  simp only [← hg]
  have hcop : Nat.gcd (d.natAbs / g) (n.natAbs / g) = 1 := by
    rw [hg]; exact Nat.gcd_div_gcd_div_gcd_of_pos_left (by omega)
  have hd1 : 0 < d.natAbs / g := Nat.div_pos (by rw [hg]; exact Nat.le_of_dvd (by omega) (Nat.gcd_dvd_left _ _)) hg0
  generalize n.natAbs / g = A at *
  generalize d.natAbs / g = B at *
  have hab : (if n < 0 then -(A : Int) else (A : Int)).natAbs = A := by split <;> omega
  by_cases c : 1073741824 < A ∨ 1073741824 < B
  · rw [if_pos c, if_neg]
    intro h
    obtain ⟨_, h2, h3, h4, _⟩ := isq_facts h
    split at h3 <;> split at h4 <;> omega
  · rw [if_neg c, if_pos]
    unfold isq
    rw [leI_t (show (1 : Int) ≤ B by omega), leI_t (show (B : Int) ≤ 1073741824 by omega), leI_t (by split <;> omega), leI_t (by split <;> omega), eqI_t]
    · rfl
    · rw [Int.natAbs_natCast, hab, hcop]; rfl

/-- The reference's Make. -/
theorem make46g {n d : Int} (n1 : -4611686018427387904 ≤ n) (n2 : n ≤ 4611686018427387904) (d1 : 1 ≤ d) (d2 : d ≤ 4611686018427387904) :
    Ev 46 [.pv (.int .i64) (.int .i64 n), .pv (.int .i64) (.int .i64 d)] [.pv (.st 25) (qv (mk n d))] := by
  have hg0 : 0 < Nat.gcd d.natAbs n.natAbs := Nat.gcd_pos_of_pos_left _ (by omega)
  obtain ⟨e1, e2⟩ := mk_pos (n := n) d1 _ rfl
  have l1 : n.natAbs / Nat.gcd d.natAbs n.natAbs ≤ n.natAbs := Nat.div_le_self _ _
  have l2 : d.natAbs / Nat.gcd d.natAbs n.natAbs ≤ d.natAbs := Nat.div_le_self _ _
  have key := isq_mk (n := n) d1 _ rfl
  refine Evt.ev ((((div38b n1 n2 d1 d2).evt.and (least60 n1 n2).evt).and ((least60 (n := d) (by omega) d2).evt.and none48.evt)).and (is7 (n := n.tdiv ((Nat.gcd d.natAbs n.natAbs : Nat) : Int)) (d := d.tdiv ((Nat.gcd d.natAbs n.natAbs : Nat) : Int))).evt).pos rfl
    fun k ⟨⟨⟨⟨h1, h2⟩, h3, h5⟩, h4⟩, hk⟩ => ?_
  rw [R46]
  simp only [PV.toInt]
  rw [eqI_f (show d ≠ 0 by omega)]
  simp only [cond_false]
  obtain ⟨j, hj⟩ : ∃ j, k = j + 1 := ⟨k - 1, by omega⟩
  rw [show L46_3 gate1 (EG k) k k (.int .i64 n) (.int .i64 d) (.int .i64 0) (.int .i64 0) = L46_3 gate1 (EG k) k (j + 1) (.int .i64 n) (.int .i64 d) (.int .i64 0) (.int .i64 0) by rw [← hj]]
  rw [L46_3_succ]
  rw [← key]
  generalize hN : n.tdiv ((Nat.gcd d.natAbs n.natAbs : Nat) : Int) = N at *
  generalize hD : d.tdiv ((Nat.gcd d.natAbs n.natAbs : Nat) : Int) = D at *
  generalize n.natAbs / Nat.gcd d.natAbs n.natAbs = A at *
  generalize d.natAbs / Nat.gcd d.natAbs n.natAbs = B at *
  have bN : -4611686018427387904 ≤ N ∧ N ≤ 4611686018427387904 := by
    by_cases hn : n < 0
    · rw [if_pos hn] at e1; omega
    · rw [if_neg hn] at e1; omega
  have wN : IntKind.i64.wrap N = N := wrap_id (n := N) (by omega) (by omega)
  have wD : IntKind.i64.wrap D = D := wrap_id (n := D) (by omega) (by omega)
  simp only [h2, h3, PV.cell, PV.cells, List.getD_cons_succ, List.getD_cons_zero, PV.toInt, PV.toStr, PV.toBool, okRes, resPV, Ty.eq, Nat.beq_refl, decide_true, Bool.not_true, Bool.not_false, cond_true, cond_false, J46_8_eq, J46_11s1_eq, J46_15_eq, h1, hN, hD, wN, wD, h4, h5]
  rw [ltI_f (show (0 : Int) ≤ d by omega), eqI_f (show ((Nat.gcd d.natAbs n.natAbs : Nat) : Int) ≠ 0 by omega)]
  cases isq N D <;> rfl
end Go.V

set_option linter.unusedSimpArgs false
set_option linter.unusedVariables false
set_option maxRecDepth 100000
namespace Go.V
open Go.Proofs

/-- Is a pair a number? -/
abbrev isp (p : Int × Int) : Bool := isq p.1 p.2

theorem isp7 (p : Int × Int) : Ev 7 [.pv (.st 25) (qv p)] [.pv .bool (.bool (isp p))] := is7
theorem isp35 (p : Int × Int) : Ev 35 [.pv (.st 25) (qv p)] [.pv .bool (.bool (isp p))] := is35
theorem bothp (p q : Int × Int) : Ev 47 [.pv (.st 25) (qv p), .pv (.st 25) (qv q)] [.pv .bool (.bool (isp p && isp q))] := both47

/-- The reference's sum. -/
def addp (p q : Int × Int) : Int × Int := bif isp p && isp q then mk (p.1 * q.2 + q.1 * p.2) (p.2 * q.2) else (0, 0)

theorem mul_bd {a b A B : Int} (h1 : -A ≤ a) (h2 : a ≤ A) (h3 : -B ≤ b) (h4 : b ≤ B) (hA : 0 ≤ A) (hB : 0 ≤ B) : -(A * B) ≤ a * b ∧ a * b ≤ A * B := by
  have h : (a * b).natAbs ≤ A.natAbs * B.natAbs := by
    rw [Int.natAbs_mul]; exact Nat.mul_le_mul (by omega) (by omega)
  have e : ((A.natAbs * B.natAbs : Nat) : Int) = A * B := by
    rw [Int.natCast_mul, show ((A.natAbs : Nat) : Int) = A by omega, show ((B.natAbs : Nat) : Int) = B by omega]
  generalize A.natAbs * B.natAbs = Z at *
  generalize a * b = z at *
  generalize A * B = W at *
  omega

theorem addg18 (p q : Int × Int) : Ev 18 [.pv (.st 25) (qv p), .pv (.st 25) (qv q)] [.pv (.st 25) (qv (addp p q))] := by
  unfold addp
  cases hb : (isp p && isp q) with
  | false =>
    refine Evt.ev ((bothp p q).evt.and none48.evt) rfl fun k ⟨h1, h2⟩ => ?_
    rw [hb] at h1
    simp only [qv] at h1 h2 ⊢
    rw [R18]
    simp only [PV.cell, PV.cells, List.getD_cons_succ, List.getD_cons_zero, PV.toInt, PV.toStr, PV.toBool, okRes, resPV, Ty.eq, Nat.beq_refl, decide_true, Bool.not_true, Bool.not_false, cond_true, cond_false, h1, h2]
  | true =>
    obtain ⟨hp, hq⟩ := Bool.and_eq_true_iff.1 hb
    obtain ⟨p1, p2, p3, p4, _⟩ := isq_facts hp
    obtain ⟨q1, q2, q3, q4, _⟩ := isq_facts hq
    have b1 := mul_bd p3 p4 (show -1073741824 ≤ q.2 by omega) q2 (by omega) (by omega)
    have b2 := mul_bd q3 q4 (show -1073741824 ≤ p.2 by omega) p2 (by omega) (by omega)
    have b3 := mul_bd (show -1073741824 ≤ p.2 by omega) p2 (show -1073741824 ≤ q.2 by omega) q2 (by omega) (by omega)
    have b4 : 1 ≤ p.2 * q.2 := Int.mul_pos (show 0 < p.2 by omega) (show 0 < q.2 by omega)
    have hm := make46g (n := p.1 * q.2 + q.1 * p.2) (d := p.2 * q.2) (by omega) (by omega) b4 (by omega)
    refine Evt.ev ((bothp p q).evt.and hm.evt) rfl fun k ⟨h1, h2⟩ => ?_
    rw [hb] at h1
    simp only [qv] at h1 h2 ⊢
    rw [R18]
    simp only [PV.cell, PV.cells, List.getD_cons_succ, List.getD_cons_zero, PV.toInt, PV.toStr, PV.toBool, okRes, resPV, Ty.eq, Nat.beq_refl, decide_true, Bool.not_true, Bool.not_false, cond_true, cond_false, h1, J18_3_eq]
    rw [wrap_id (n := p.1 * q.2) (by omega) (by omega), wrap_id (n := q.1 * p.2) (by omega) (by omega), wrap_id (n := p.1 * q.2 + q.1 * p.2) (by omega) (by omega), wrap_id (n := p.2 * q.2) (by omega) (by omega)]
    simp only [PV.cell, PV.cells, List.getD_cons_succ, List.getD_cons_zero, PV.toInt, PV.toStr, PV.toBool, okRes, resPV, Ty.eq, Nat.beq_refl, decide_true, Bool.not_true, Bool.not_false, cond_true, cond_false, h2]

def negp (p : Int × Int) : Int × Int := bif isp p then (-p.1, p.2) else (0, 0)

theorem negg43 (p : Int × Int) : Ev 43 [.pv (.st 25) (qv p)] [.pv (.st 25) (qv (negp p))] := by
  unfold negp
  cases hb : isp p with
  | false =>
    refine Evt.ev ((isp7 p).evt.and none48.evt) rfl fun k ⟨h1, h2⟩ => ?_
    rw [hb] at h1
    simp only [qv] at h1 h2 ⊢
    rw [R43]
    simp only [PV.cell, PV.cells, List.getD_cons_succ, List.getD_cons_zero, PV.toInt, PV.toStr, PV.toBool, okRes, resPV, Ty.eq, Nat.beq_refl, decide_true, Bool.not_true, Bool.not_false, cond_true, cond_false, h1, h2]
  | true =>
    obtain ⟨p1, p2, p3, p4, _⟩ := isq_facts hb
    refine Evt.ev ((isp7 p).evt.and none48.evt) rfl fun k ⟨h1, h2⟩ => ?_
    rw [hb] at h1
    simp only [qv] at h1 h2 ⊢
    rw [R43]
    simp only [PV.cell, PV.cells, List.getD_cons_succ, List.getD_cons_zero, PV.toInt, PV.toStr, PV.toBool, okRes, resPV, Ty.eq, Nat.beq_refl, decide_true, Bool.not_true, Bool.not_false, cond_true, cond_false, h1, h2, J43_3_eq]
    rw [wrap_id (n := 0 - p.1) (by omega) (by omega), Int.zero_sub]

theorem neg41 (p : Int × Int) : Ev 41 [.pv (.st 25) (qv p)] [.pv (.st 25) (qv (negp p))] := by
  unfold negp
  cases hb : isp p with
  | false =>
    refine Evt.ev (isp35 p).evt rfl fun k h1 => ?_
    rw [hb] at h1
    simp only [qv] at h1 ⊢
    rw [R41]
    simp only [PV.cell, PV.cells, List.getD_cons_succ, List.getD_cons_zero, PV.toInt, PV.toStr, PV.toBool, okRes, resPV, Ty.eq, Nat.beq_refl, decide_true, Bool.not_true, Bool.not_false, cond_true, cond_false, h1]
  | true =>
    obtain ⟨p1, p2, p3, p4, _⟩ := isq_facts hb
    refine Evt.ev (isp35 p).evt rfl fun k h1 => ?_
    rw [hb] at h1
    simp only [qv] at h1 ⊢
    rw [R41]
    simp only [PV.cell, PV.cells, List.getD_cons_succ, List.getD_cons_zero, PV.toInt, PV.toStr, PV.toBool, okRes, resPV, Ty.eq, Nat.beq_refl, decide_true, Bool.not_true, Bool.not_false, cond_true, cond_false, h1, J41_3_eq]
    rw [wrap_id (n := 0 - p.1) (by omega) (by omega), Int.zero_sub]

def cleanp (p : Int × Int) : Int × Int := bif isp p then p else (0, 0)

theorem clean44 (p : Int × Int) : Ev 44 [.pv (.st 25) (qv p)] [.pv (.st 25) (qv (cleanp p))] := by
  unfold cleanp
  refine Evt.ev ((isp7 p).evt.and none48.evt) rfl fun k ⟨h1, h2⟩ => ?_
  cases hb : isp p with
  | false =>
    rw [hb] at h1
    simp only [qv] at h1 h2 ⊢
    rw [R44]
    simp only [PV.cell, PV.cells, List.getD_cons_succ, List.getD_cons_zero, PV.toInt, PV.toStr, PV.toBool, okRes, resPV, Ty.eq, Nat.beq_refl, decide_true, Bool.not_true, Bool.not_false, cond_true, cond_false, h1, h2, J44_3_eq]
  | true =>
    rw [hb] at h1
    simp only [qv] at h1 h2 ⊢
    rw [R44]
    simp only [PV.cell, PV.cells, List.getD_cons_succ, List.getD_cons_zero, PV.toInt, PV.toStr, PV.toBool, okRes, resPV, Ty.eq, Nat.beq_refl, decide_true, Bool.not_true, Bool.not_false, cond_true, cond_false, h1, h2]

def absp (p : Int × Int) : Int × Int := bif isp p && ltI p.1 0 then negp p else cleanp p

theorem abs13 (p : Int × Int) : Ev 13 [.pv (.st 25) (qv p)] [.pv (.st 25) (qv (absp p))] := by
  unfold absp
  refine Evt.ev ((isp7 p).evt.and ((negg43 p).evt.and (clean44 p).evt)) rfl fun k ⟨h1, h2, h3⟩ => ?_
  cases hb : isp p with
  | false =>
    rw [hb] at h1
    simp only [qv] at h1 h2 h3 ⊢
    rw [R13]
    simp only [PV.cell, PV.cells, List.getD_cons_succ, List.getD_cons_zero, PV.toInt, PV.toStr, PV.toBool, okRes, resPV, Ty.eq, Nat.beq_refl, decide_true, Bool.not_true, Bool.not_false, cond_true, cond_false, h1, h2, h3, J13_3_eq, J13_2_eq, Bool.false_and]
  | true =>
    rw [hb] at h1
    simp only [qv] at h1 h2 h3 ⊢
    rw [R13]
    simp only [PV.cell, PV.cells, List.getD_cons_succ, List.getD_cons_zero, PV.toInt, PV.toStr, PV.toBool, okRes, resPV, Ty.eq, Nat.beq_refl, decide_true, Bool.not_true, Bool.not_false, cond_true, cond_false, h1, h2, h3, J13_3_eq, J13_2_eq, Bool.true_and]
    cases ltI p.1 0 <;> rfl

def subp (p q : Int × Int) : Int × Int := addp p (negp q)

theorem sub14 (p q : Int × Int) : Ev 14 [.pv (.st 25) (qv p), .pv (.st 25) (qv q)] [.pv (.st 25) (qv (subp p q))] := by
  unfold subp
  refine Evt.ev ((negg43 q).evt.and (addg18 p (negp q)).evt) rfl fun k ⟨h1, h2⟩ => ?_
  simp only [qv] at h1 h2 ⊢
  rw [R14]
  simp only [PV.cell, PV.cells, List.getD_cons_succ, List.getD_cons_zero, PV.toInt, PV.toStr, PV.toBool, okRes, resPV, Ty.eq, Nat.beq_refl, decide_true, Bool.not_true, Bool.not_false, cond_true, cond_false, h1, h2]

/-- The order. -/
def cmpp (p q : Int × Int) : Int :=
  bif !isp p && !isp q then 0 else bif !isp p then -1 else bif !isp q then 1 else bif ltI (p.1 * q.2) (q.1 * p.2) then -1 else bif ltI (q.1 * p.2) (p.1 * q.2) then 1 else 0

theorem cmp9 (p q : Int × Int) : Ev 9 [.pv (.st 25) (qv p), .pv (.st 25) (qv q)] [.pv (.int .i64) (.int .i64 (cmpp p q))] := by
  unfold cmpp
  refine Evt.ev ((isp7 p).evt.and (isp7 q).evt) rfl fun k ⟨h1, h2⟩ => ?_
  cases hp : isp p with
  | false =>
    rw [hp] at h1
    cases hq : isp q with
    | false =>
      rw [hq] at h2
      simp only [qv] at h1 h2 ⊢
      rw [R9]
      simp only [PV.cell, PV.cells, List.getD_cons_succ, List.getD_cons_zero, PV.toInt, PV.toStr, PV.toBool, okRes, resPV, Ty.eq, Nat.beq_refl, decide_true, Bool.not_true, Bool.not_false, cond_true, cond_false, h1, h2, J9_2_eq, Bool.and_self]
    | true =>
      rw [hq] at h2
      simp only [qv] at h1 h2 ⊢
      rw [R9]
      simp only [PV.cell, PV.cells, List.getD_cons_succ, List.getD_cons_zero, PV.toInt, PV.toStr, PV.toBool, okRes, resPV, Ty.eq, Nat.beq_refl, decide_true, Bool.not_true, Bool.not_false, cond_true, cond_false, h1, h2, J9_2_eq, J9_3_eq, Bool.and_false]
  | true =>
    rw [hp] at h1
    cases hq : isp q with
    | false =>
      rw [hq] at h2
      simp only [qv] at h1 h2 ⊢
      rw [R9]
      simp only [PV.cell, PV.cells, List.getD_cons_succ, List.getD_cons_zero, PV.toInt, PV.toStr, PV.toBool, okRes, resPV, Ty.eq, Nat.beq_refl, decide_true, Bool.not_true, Bool.not_false, cond_true, cond_false, h1, h2, J9_2_eq, J9_3_eq, J9_5_eq, Bool.false_and]
    | true =>
      rw [hq] at h2
      obtain ⟨p1, p2, p3, p4, _⟩ := isq_facts hp
      obtain ⟨q1, q2, q3, q4, _⟩ := isq_facts hq
      have b1 := mul_bd p3 p4 (show -1073741824 ≤ q.2 by omega) q2 (by omega) (by omega)
      have b2 := mul_bd q3 q4 (show -1073741824 ≤ p.2 by omega) p2 (by omega) (by omega)
      simp only [qv] at h1 h2 ⊢
      rw [R9]
      simp only [PV.cell, PV.cells, List.getD_cons_succ, List.getD_cons_zero, PV.toInt, PV.toStr, PV.toBool, okRes, resPV, Ty.eq, Nat.beq_refl, decide_true, Bool.not_true, Bool.not_false, cond_true, cond_false, h1, h2, J9_2_eq, J9_3_eq, J9_5_eq, J9_7_eq, J9_11_eq, J9_13_eq, Bool.false_and]
      rw [wrap_id (n := p.1 * q.2) (by omega) (by omega), wrap_id (n := q.1 * p.2) (by omega) (by omega)]
      cases ltI (p.1 * q.2) (q.1 * p.2) <;> cases ltI (q.1 * p.2) (p.1 * q.2) <;> rfl

section
variable {kind round over : ByteArray} {I F : Int}

theorem step24 (hI : 0 ≤ F) (hF : F ≤ 30) (hv : validB kind round over I F = true) :
    Ev 24 [.pv (.st 23) (fv kind I F round over)] [.pv (.st 25) (qv (mk 1 (2 ^ F.toNat : Nat)))] := by
  have hp : 2 ^ F.toNat ≤ 2 ^ 30 := Nat.pow_le_pow_right (by decide) (by omega)
  have hp0 : 0 < 2 ^ F.toNat := Nat.pow_pos (by decide)
  refine Evt.ev ((valid16b kind round over I F).evt.and (make39 (n := 1) (d := ((2 ^ F.toNat : Nat) : Int)) (by omega) (by omega) (by omega) (by omega)).evt) rfl fun k ⟨h1, h2⟩ => ?_
  rw [hv] at h1
  simp only [fv, qv] at h1 h2 ⊢
  rw [R24]
  simp only [PV.cell, PV.cells, List.getD_cons_succ, List.getD_cons_zero, PV.toInt, PV.toStr, PV.toBool, okRes, resPV, Ty.eq, Nat.beq_refl, decide_true, Bool.not_true, Bool.not_false, cond_true, cond_false, h1, J24_3_eq]
  rw [shl1i (F := F) (by omega) (by omega), uwrap_id (n := F) (by omega) (by omega), ltI_f (show (0 : Int) ≤ F by omega)]
  simp only [PV.cell, PV.cells, List.getD_cons_succ, List.getD_cons_zero, PV.toInt, PV.toStr, PV.toBool, okRes, resPV, Ty.eq, Nat.beq_refl, decide_true, Bool.not_true, Bool.not_false, cond_true, cond_false, h2]

/-- What Bound tells: a number (or none), and 0 if it is told. -/
def boundp (kind round over : ByteArray) (I F : Int) : (Int × Int) × Int :=
  bif validB kind round over I F && sFix kind then (bif sNear round then (mk 1 ((2 * 2 ^ F.toNat : Nat) : Int), 0) else (mk 1 ((2 ^ F.toNat : Nat) : Int), 0)) else ((0, 0), 2)

theorem bound10 : Ev 10 [.pv (.st 23) (fv kind I F round over)] [.pv (.st 25) (qv (boundp kind round over I F).1), .pv (.int .i64) (.int .i64 (boundp kind round over I F).2)] := by
  unfold boundp
  cases hv : validB kind round over I F with
  | false =>
    refine Evt.ev (valid16b kind round over I F).evt rfl fun k h1 => ?_
    rw [hv] at h1
    simp only [fv, qv] at h1 ⊢
    rw [R10]
    simp only [PV.cell, PV.cells, List.getD_cons_succ, List.getD_cons_zero, PV.toInt, PV.toStr, PV.toBool, okRes, resPV, Ty.eq, Nat.beq_refl, decide_true, Bool.not_true, Bool.not_false, cond_true, cond_false, h1, J10_2_eq, Bool.false_and]
  | true =>
    cases hk : sFix kind with
    | false =>
      refine Evt.ev (valid16b kind round over I F).evt rfl fun k h1 => ?_
      rw [hv] at h1
      unfold sFix at hk
      simp only [fv, qv] at h1 ⊢
      rw [R10]
      simp only [PV.cell, PV.cells, List.getD_cons_succ, List.getD_cons_zero, PV.toInt, PV.toStr, PV.toBool, okRes, resPV, Ty.eq, Nat.beq_refl, decide_true, Bool.not_true, Bool.not_false, cond_true, cond_false, h1, J10_2_eq, Bool.true_and, hk]
    | true =>
      have hb : 0 ≤ F ∧ F ≤ 30 := by
        rcases (validB_facts hv).2 with ⟨_, ⟨a, b, c⟩, _⟩ | ⟨h, _⟩
        · omega
        · rw [h] at hk; cases hk
      have hp : 2 ^ F.toNat ≤ 2 ^ 30 := Nat.pow_le_pow_right (by decide) (by omega)
      have hp0 : 0 < 2 ^ F.toNat := Nat.pow_pos (by decide)
      have e : IntKind.i64.wrap (2 * 2 ^ min (IntKind.u64.wrap F).toNat 64) = ((2 * 2 ^ F.toNat : Nat) : Int) := by
        rw [uwrap_id (n := F) (by omega) (by omega), Nat.min_eq_left (by omega)]
        have e : (2 : Int) ^ F.toNat = ((2 ^ F.toNat : Nat) : Int) := by simp
        rw [e, wrap_id (by omega) (by omega)]; omega
      refine Evt.ev ((valid16b kind round over I F).evt.and ((step24 hb.1 hb.2 hv).evt.and (make39 (n := 1) (d := ((2 * 2 ^ F.toNat : Nat) : Int)) (by omega) (by omega) (by omega) (by omega)).evt)) rfl fun k ⟨h1, h2, h3⟩ => ?_
      rw [hv] at h1
      unfold sFix at hk
      unfold sNear
      simp only [fv, qv] at h1 h2 h3 ⊢
      rw [R10]
      simp only [PV.cell, PV.cells, List.getD_cons_succ, List.getD_cons_zero, PV.toInt, PV.toStr, PV.toBool, okRes, resPV, Ty.eq, Nat.beq_refl, decide_true, Bool.not_true, Bool.not_false, cond_true, cond_false, h1, J10_5_eq, Bool.true_and, hk, e]
      rw [uwrap_id (n := F) (by omega) (by omega), ltI_f (show (0 : Int) ≤ F by omega)]
      cases hn : (round.data.toList == (ByteArray.mk #[110, 101, 97, 114]).data.toList) with
      | true => simp only [PV.cell, PV.cells, List.getD_cons_succ, List.getD_cons_zero, PV.toInt, PV.toStr, PV.toBool, okRes, resPV, Ty.eq, Nat.beq_refl, decide_true, Bool.not_true, Bool.not_false, cond_true, cond_false, h3]
      | false => simp only [PV.cell, PV.cells, List.getD_cons_succ, List.getD_cons_zero, PV.toInt, PV.toStr, PV.toBool, okRes, resPV, Ty.eq, Nat.beq_refl, decide_true, Bool.not_true, Bool.not_false, cond_true, cond_false, h2]
end
end Go.V

set_option linter.unusedSimpArgs false
set_option linter.unusedVariables false
set_option maxRecDepth 100000
namespace Go.V
open Go.Proofs

theorem mk_scale {n d : Int} {c : Nat} (hd : 1 ≤ d) (hc : 0 < c) : mk (n * c) (d * c) = mk n d := by
  unfold mk
  have e1 : (n * (c : Int)).natAbs = n.natAbs * c := by rw [Int.natAbs_mul, Int.natAbs_natCast]
  have e2 : (d * (c : Int)).natAbs = d.natAbs * c := by rw [Int.natAbs_mul, Int.natAbs_natCast]
  have e3 : (n * (c : Int) < 0) ↔ n < 0 := by
    constructor
    · intro h
      apply Classical.byContradiction
      intro hn
      have := Int.mul_nonneg (show 0 ≤ n by omega) (Int.natCast_nonneg c)
      omega
    · intro h
      exact Int.mul_neg_of_neg_of_pos h (by omega)
  simp only [e1, e2, Nat.gcd_mul_right, Nat.mul_div_mul_right _ _ hc, e3]

theorem mk_cross {n d : Int} (hd : 1 ≤ d) (h : isp (mk n d) = true) : (mk n d).1 * d = n * (mk n d).2 := by
  have hg : 0 < Nat.gcd d.natAbs n.natAbs := Nat.gcd_pos_of_pos_left _ (by omega)
  have hd1 := Nat.gcd_dvd_left d.natAbs n.natAbs
  have hd2 := Nat.gcd_dvd_right d.natAbs n.natAbs
  have e1 := Nat.div_mul_cancel hd1
  have e2 := Nat.div_mul_cancel hd2
  unfold mk at h ⊢
  simp only at h ⊢
  generalize n.natAbs / Nat.gcd d.natAbs n.natAbs = A at *
  generalize d.natAbs / Nat.gcd d.natAbs n.natAbs = B at *
  by_cases c : 1073741824 < A ∨ 1073741824 < B
  · rw [if_pos c] at h; exact absurd h (by decide)
  · rw [if_neg c]
    simp only
    generalize Nat.gcd d.natAbs n.natAbs = g at *
    have hn : d = (B : Int) * g := by
      rw [← Int.natCast_mul, e1]; omega
    by_cases hs : n < 0
    · rw [if_pos hs]
      have hm : n = -((A : Int) * g) := by rw [← Int.natCast_mul, e2]; omega
      rw [hm, hn, Int.neg_mul, Int.neg_mul]
      congr 1
      rw [Int.mul_assoc, Int.mul_comm (B : Int)]
    · rw [if_neg hs]
      have hm : n = (A : Int) * g := by rw [← Int.natCast_mul, e2]; omega
      rw [hm, hn, Int.mul_assoc, Int.mul_comm (B : Int)]

/-- A number at a denominator is a number. -/
theorem mk_isp {n d : Int} (hd : 1 ≤ d) (h1 : d ≤ 1073741824) (h2 : n.natAbs ≤ 1073741824) : isp (mk n d) = true := by
  rw [← isq_mk hd _ rfl]
  have key := mk_pos (n := n) hd _ rfl
  have hg : 0 < Nat.gcd d.natAbs n.natAbs := Nat.gcd_pos_of_pos_left _ (by omega)
  have l1 : n.natAbs / Nat.gcd d.natAbs n.natAbs ≤ n.natAbs := Nat.div_le_self _ _
  have l2 : d.natAbs / Nat.gcd d.natAbs n.natAbs ≤ d.natAbs := Nat.div_le_self _ _
  have hcop : Nat.gcd (d.natAbs / Nat.gcd d.natAbs n.natAbs) (n.natAbs / Nat.gcd d.natAbs n.natAbs) = 1 := Nat.gcd_div_gcd_div_gcd_of_pos_left (by omega)
  have hd1 : 0 < d.natAbs / Nat.gcd d.natAbs n.natAbs := Nat.div_pos (Nat.le_of_dvd (by omega) (Nat.gcd_dvd_left _ _)) hg
  have hq : isq (n.tdiv ((Nat.gcd d.natAbs n.natAbs : Nat) : Int)) (d.tdiv ((Nat.gcd d.natAbs n.natAbs : Nat) : Int)) = true := by
    rw [key.1, key.2]
    generalize n.natAbs / Nat.gcd d.natAbs n.natAbs = A at *
    generalize d.natAbs / Nat.gcd d.natAbs n.natAbs = B at *
    have hab : (if n < 0 then -(A : Int) else (A : Int)).natAbs = A := by split <;> omega
    unfold isq
    rw [leI_t (show (1 : Int) ≤ B by omega), leI_t (show (B : Int) ≤ 1073741824 by omega), leI_t (by split <;> omega), leI_t (by split <;> omega), eqI_t]
    · rfl
    · rw [Int.natAbs_natCast, hab, hcop]; rfl
  rw [if_pos hq]
  exact hq

theorem mk_neg {n d : Int} (hd : 1 ≤ d) (h : isp (mk n d) = true) : negp (mk n d) = mk (-n) d := by
  unfold negp
  rw [h, cond_true]
  unfold mk at h ⊢
  simp only [Int.natAbs_neg] at h ⊢
  have hg : 0 < Nat.gcd d.natAbs n.natAbs := Nat.gcd_pos_of_pos_left _ (by omega)
  have z : n = 0 → n.natAbs / Nat.gcd d.natAbs n.natAbs = 0 := fun h => by rw [h]; simp
  have z2 := Nat.div_mul_cancel (Nat.gcd_dvd_right d.natAbs n.natAbs)
  generalize n.natAbs / Nat.gcd d.natAbs n.natAbs = A at *
  generalize d.natAbs / Nat.gcd d.natAbs n.natAbs = B at *
  by_cases c : 1073741824 < A ∨ 1073741824 < B
  · rw [if_pos c] at h; exact absurd h (by decide)
  · rw [if_neg c, if_neg c]
    simp only
    by_cases hs : n < 0
    · rw [if_pos hs, if_neg (by omega), Int.neg_neg]
    · rw [if_neg hs]
      by_cases h0 : n = 0
      · rw [if_neg (by omega), z h0]; rfl
      · rw [if_pos (by omega)]

/-- The least s from 'from' on, at most r more, for which p holds. -/
def lexp (p : Nat → Bool) : Nat → Nat → Nat
  | 0, s => s
  | r + 1, s => bif p s then s else lexp p r (s + 1)

theorem lexp_spec (p : Nat → Bool) : ∀ (r s : Nat), s ≤ lexp p r s ∧ lexp p r s ≤ s + r ∧ (∀ i, s ≤ i → i < lexp p r s → p i = false) ∧ (lexp p r s < s + r → p (lexp p r s) = true)
  | 0, s => ⟨Nat.le_refl _, Nat.le_refl _, fun i h1 h2 => by simp only [lexp] at h2; omega, fun h => by simp only [lexp] at h; omega⟩
  | r + 1, s => by
    obtain ⟨a, b, c, d⟩ := lexp_spec p r (s + 1)
    unfold lexp
    cases h : p s with
    | true => simp only [cond_true]; exact ⟨Nat.le_refl _, by omega, fun i h1 h2 => by omega, fun _ => h⟩
    | false =>
      simp only [cond_false]
      refine ⟨by omega, by omega, fun i h1 h2 => ?_, fun h => d (by omega)⟩
      by_cases hi : i = s
      · rw [hi]; exact h
      · exact c i (by omega) h2

theorem lexp_uniq (p : Nat → Bool) (r t : Nat) (h1 : t ≤ r) (h2 : ∀ i, i < t → p i = false) (h3 : t < r → p t = true) : lexp p r 0 = t := by
  obtain ⟨_, b, c, d⟩ := lexp_spec p r 0
  rcases Nat.lt_trichotomy (lexp p r 0) t with h | h | h
  · have := h2 _ h
    rw [d (by omega)] at this
    cases this
  · exact h
  · have := c t (by omega) h
    rw [h3 (by omega)] at this
    cases this

/-- A size as steps of 2^-F in a floating format: 2^(I + 2F) if it is beyond. -/
def WF (m : Bool) (round : ByteArray) (I F n d : Nat) : Nat :=
  let s := lexp (fun s => decide (n * 2 ^ F < d * 2 ^ (I + s))) (2 * F + 1) 0
  if s ≤ 2 * F then mag m round (n * 2 ^ F) (d * 2 ^ s) * 2 ^ s else 2 ^ (I + 2 * F)

/-- What a floating format makes of a fraction. -/
def floatR (m : Bool) (round over : ByteArray) (I F n d : Nat) : Int × Int :=
  if WF m round I F n d < 2 ^ (I + 2 * F) then mk (sK m (WF m round I F n d)) ((2 ^ F : Nat) : Int)
  else bif sNone over then (0, 0) else mk (sK m ((2 ^ I - 1) * 2 ^ (2 * F))) ((2 ^ F : Nat) : Int)

end Go.V

set_option linter.unusedSimpArgs false
set_option linter.unusedVariables false
set_option maxRecDepth 100000
namespace Go.V
open Go.Proofs

section
variable {kind round over : ByteArray} {i f : Nat} {m : Bool} {n d : Nat}

theorem timesQ_grid {M t : Int} (hf : -(f : Int) ≤ t) : timesQ M t = mk (M * ((2 ^ (t + f).toNat : Nat) : Int)) ((2 ^ f : Nat) : Int) := by
  unfold timesQ
  by_cases h : 0 ≤ t
  · rw [if_pos h, show (t + f).toNat = t.toNat + f by omega, Nat.pow_add, Int.natCast_mul, ← Int.mul_assoc]
    have := mk_scale (n := M * ((2 ^ t.toNat : Nat) : Int)) (d := 1) (c := 2 ^ f) (by omega) (Nat.pow_pos (by decide))
    rw [Int.one_mul] at this
    exact this.symm
  · rw [if_neg h]
    have e : f = (-t).toNat + (t + f).toNat := by omega
    have e2 : ((2 ^ f : Nat) : Int) = ((2 ^ (-t).toNat : Nat) : Int) * ((2 ^ (t + f).toNat : Nat) : Int) := by
      rw [← Int.natCast_mul, ← Nat.pow_add, ← e]
    have p0 : 0 < 2 ^ (-t).toNat := Nat.pow_pos (by decide)
    rw [e2, mk_scale (by omega) (Nat.pow_pos (by decide))]

theorem sK_mul {a c : Nat} : sK m (a * c) = sK m a * (c : Int) := by
  unfold sK
  cases m
  · simp
  · simp [Int.neg_mul]

/-- The float format's facts. -/
structure FlOk (i f : Nat) : Prop where
  i1 : 1 ≤ i
  i2 : i ≤ 24
  f2 : f ≤ 20
  s : i + f ≤ 30

theorem greatest12f (ok : FlOk i f) (hv : validB kind round over i f = true) (hk : sFix kind = false) :
    Ev 12 [.pv (.st 23) (fv kind i f round over)] [.pv (.st 25) (qv (mk (((2 ^ i - 1) * 2 ^ (2 * f) : Nat) : Int) ((2 ^ f : Nat) : Int)))] := by
  obtain ⟨i1, i2, f2, s⟩ := ok
  have hp : 2 ^ i ≤ 2 ^ 24 := Nat.pow_le_pow_right (by decide) (by omega)
  have hp0 : 0 < 2 ^ i := Nat.pow_pos (by decide)
  have h := times42 (m := ((2 ^ i - 1 : Nat) : Int)) (x := (f : Int)) (by omega) (by omega) (by omega) (by omega)
  rw [timesQ_grid (f := f) (by omega), show ((f : Int) + f).toNat = 2 * f by omega, ← Int.natCast_mul] at h
  have e : IntKind.i64.wrap (IntKind.i64.wrap (1 * 2 ^ min (IntKind.u64.wrap (i : Int)).toNat 64) - 1) = ((2 ^ i - 1 : Nat) : Int) := by
    rw [shl1i (by omega) (by omega), Int.toNat_natCast, wrap_id (by omega) (by omega)]; omega
  refine Evt.ev ((valid16b kind round over i f).evt.and h.evt) rfl fun k ⟨h1, h2⟩ => ?_
  rw [hv] at h1
  unfold sFix at hk
  simp only [fv, qv] at h1 h2 ⊢
  rw [R12]
  simp only [PV.cell, PV.cells, List.getD_cons_succ, List.getD_cons_zero, PV.toInt, PV.toStr, PV.toBool, okRes, resPV, Ty.eq, Nat.beq_refl, decide_true, Bool.not_true, Bool.not_false, cond_true, cond_false, h1, hk, J12_5_eq, e]
  rw [uwrap_id (by omega) (by omega), ltI_f (show (0 : Int) ≤ i by omega)]
  simp only [PV.cell, PV.cells, List.getD_cons_succ, List.getD_cons_zero, PV.toInt, PV.toStr, PV.toBool, okRes, resPV, Ty.eq, Nat.beq_refl, decide_true, Bool.not_true, Bool.not_false, cond_true, cond_false, h2]

theorem isp_top (ok : FlOk i f) (m : Bool) : isp (mk (sK m ((2 ^ i - 1) * 2 ^ (2 * f))) ((2 ^ f : Nat) : Int)) = true := by
  obtain ⟨i1, i2, f2, s⟩ := ok
  have p0 : 0 < 2 ^ f := Nat.pow_pos (by decide)
  have e : (2 ^ i - 1) * 2 ^ (2 * f) = (2 ^ i - 1) * 2 ^ f * 2 ^ f := by rw [Nat.mul_assoc, ← Nat.pow_add, Nat.two_mul]
  have := mk_scale (n := sK m ((2 ^ i - 1) * 2 ^ f)) (d := 1) (c := 2 ^ f) (by omega) p0
  rw [Int.one_mul, ← sK_mul, ← e] at this
  rw [this]
  have hb : (2 ^ i - 1) * 2 ^ f ≤ 2 ^ 30 := by
    have h1 : (2 ^ i - 1) * 2 ^ f ≤ 2 ^ i * 2 ^ f := Nat.mul_le_mul_right _ (Nat.sub_le _ _)
    rw [← Nat.pow_add] at h1
    exact Nat.le_trans h1 (Nat.pow_le_pow_right (by decide) s)
  refine mk_isp (by omega) (by omega) ?_
  unfold sK
  generalize (2 ^ i - 1) * 2 ^ f = Z at *
  cases m <;> simp <;> omega

theorem least11f (ok : FlOk i f) (hv : validB kind round over i f = true) (hk : sFix kind = false) :
    Ev 11 [.pv (.st 23) (fv kind i f round over)] [.pv (.st 25) (qv (mk (-(((2 ^ i - 1) * 2 ^ (2 * f) : Nat) : Int)) ((2 ^ f : Nat) : Int)))] := by
  have p0 : 0 < 2 ^ f := Nat.pow_pos (by decide)
  have ht := isp_top ok false
  rw [show sK false ((2 ^ i - 1) * 2 ^ (2 * f)) = (((2 ^ i - 1) * 2 ^ (2 * f) : Nat) : Int) from rfl] at ht
  rw [← mk_neg (by omega) ht]
  refine Evt.ev ((valid16b kind round over i f).evt.and ((greatest12f ok hv hk).evt.and (neg41 (mk (((2 ^ i - 1) * 2 ^ (2 * f) : Nat) : Int) ((2 ^ f : Nat) : Int))).evt)) rfl fun k ⟨h1, h2, h3⟩ => ?_
  rw [hv] at h1
  unfold sFix at hk
  simp only [fv, qv] at h1 h2 h3 ⊢
  rw [R11]
  simp only [PV.cell, PV.cells, List.getD_cons_succ, List.getD_cons_zero, PV.toInt, PV.toStr, PV.toBool, okRes, resPV, Ty.eq, Nat.beq_refl, decide_true, Bool.not_true, Bool.not_false, cond_true, cond_false, h1, hk, J11_5_eq, h2, h3]

/-- What is told beyond the greatest exponent. -/
theorem beyond58 (ok : FlOk i f) (hv : validB kind round over i f = true) (hk : sFix kind = false) (v8 v9 : PV) :
    Evt fun k => J58_13 gate1 (EG k) k (.str kind) (.int .i64 i) (.int .i64 f) (.str round) (.str over) (.bool m) (.int .u64 n) (.int .u64 d) v8 v9 =
      some ([.pv (.st 25) (qv (bif sNone over then (0, 0) else mk (sK m ((2 ^ i - 1) * 2 ^ (2 * f))) ((2 ^ f : Nat) : Int)))], []) := by
  obtain ⟨K, h⟩ := (greatest12f ok hv hk).evt.and (least11f ok hv hk).evt
  refine ⟨K, fun k hkk => ?_⟩
  obtain ⟨h1, h2⟩ := h k hkk
  rw [J58_13_eq]
  unfold sNone
  simp only [PV.cell, PV.cells, List.getD_cons_succ, List.getD_cons_zero, PV.toInt, PV.toStr, PV.toBool, okRes, resPV, Ty.eq, Nat.beq_refl, decide_true, Bool.not_true, Bool.not_false, cond_true, cond_false]
  cases ho : (over.data.toList == (ByteArray.mk #[110, 111, 110, 101]).data.toList) with
  | true => simp only [cond_true, qv]
  | false =>
    simp only [fv, qv] at h1 h2 ⊢
    cases m with
    | true => simp only [PV.cell, PV.cells, List.getD_cons_succ, List.getD_cons_zero, PV.toInt, PV.toStr, PV.toBool, okRes, resPV, Ty.eq, Nat.beq_refl, decide_true, Bool.not_true, Bool.not_false, cond_true, cond_false, h2, sK, if_true]
    | false => simp only [PV.cell, PV.cells, List.getD_cons_succ, List.getD_cons_zero, PV.toInt, PV.toStr, PV.toBool, okRes, resPV, Ty.eq, Nat.beq_refl, decide_true, Bool.not_true, Bool.not_false, cond_true, cond_false, h1, sK, J58_17_eq]; rfl

theorem belowB_grid {t : Int} {s : Nat} (hs : (s : Int) = t + f) : belowB n d (i + t) = decide (n * 2 ^ f < d * 2 ^ (i + s)) := by
  have p0 : ∀ e : Nat, 0 < 2 ^ e := fun e => Nat.pow_pos (by decide)
  unfold belowB
  by_cases h : 0 ≤ (i : Int) + t
  · rw [if_pos h, show i + s = (i + t).toNat + f by omega, Nat.pow_add, ← Nat.mul_assoc]
    by_cases c : n < d * 2 ^ ((i : Int) + t).toNat
    · rw [decide_eq_true c, decide_eq_true (Nat.mul_lt_mul_of_pos_right c (p0 f))]
    · rw [decide_eq_false c, decide_eq_false (fun h => c (Nat.lt_of_mul_lt_mul_right h))]
  · rw [if_neg h, show f = (-((i : Int) + t)).toNat + (i + s) by omega, Nat.pow_add, ← Nat.mul_assoc]
    rw [show (-((i : Int) + t)).toNat = (-((i : Int) + t)).toNat from rfl]
    generalize (-((i : Int) + t)).toNat = e
    by_cases c : n * 2 ^ e < d
    · rw [decide_eq_true c, decide_eq_true (Nat.mul_lt_mul_of_pos_right c (p0 _))]
    · rw [decide_eq_false c, decide_eq_false (fun h => c (Nat.lt_of_mul_lt_mul_right h))]

theorem magF_grid {t : Int} {s : Nat} (hd : 0 < d) (hs : (s : Int) = t + f) : magF m round n d t = mag m round (n * 2 ^ f) (d * 2 ^ s) := by
  have p0 : ∀ e : Nat, 0 < 2 ^ e := fun e => Nat.pow_pos (by decide)
  unfold magF
  refine mag_eq (Nat.mul_pos hd (p0 _)) (Nat.mul_pos hd (p0 _)) ?_
  have e : 2 ^ (-t).toNat * 2 ^ s = 2 ^ f * 2 ^ t.toNat := by
    rw [← Nat.pow_add, ← Nat.pow_add]; congr 1; omega
  calc n * 2 ^ (-t).toNat * (d * 2 ^ s) = n * d * (2 ^ (-t).toNat * 2 ^ s) := by ac_rfl
    _ = n * d * (2 ^ f * 2 ^ t.toNat) := by rw [e]
    _ = n * 2 ^ f * (d * 2 ^ t.toNat) := by ac_rfl

/-- What is below 2^(I + s) is rounded to 2^I steps of 2^s at most. -/
theorem mag_top {A s : Nat} (hd : 0 < d) (h : A < d * 2 ^ (i + s)) : mag m round A (d * 2 ^ s) ≤ 2 ^ i := by
  refine mag_le_int (Nat.mul_pos hd (Nat.pow_pos (by decide))) ?_
  rw [Nat.pow_add] at h
  have e : d * (2 ^ i * 2 ^ s) = 2 ^ i * (d * 2 ^ s) := by ac_rfl
  omega

end
end Go.V

set_option linter.unusedSimpArgs false
set_option linter.unusedVariables false
set_option maxRecDepth 100000
namespace Go.V
open Go.Proofs

section
variable {kind round over : ByteArray} {i f : Nat} {m : Bool} {n d : Nat}

theorem mag_zero : mag m round 0 d = 0 := by
  by_cases hd : 0 < d
  · have := mag_int (m := m) (round := round) (k := 0) hd
    rwa [Nat.zero_mul] at this
  · have : d = 0 := by omega
    subst this
    unfold mag; simp [half, upB_zero]

theorem sK_zero : sK m 0 = 0 := by cases m <;> rfl

theorem WF_zero (hd : 0 < d) : WF m round i f 0 d = 0 := by
  have hs : lexp (fun s => decide (0 * 2 ^ f < d * 2 ^ (i + s))) (2 * f + 1) 0 = 0 := by
    refine lexp_uniq _ _ _ (Nat.zero_le _) (fun j h => by omega) fun _ => decide_eq_true ?_
    rw [Nat.zero_mul]; exact Nat.mul_pos hd (Nat.pow_pos (by decide))
  unfold WF
  simp only [hs]
  rw [if_pos (Nat.zero_le _), Nat.zero_mul, mag_zero, Nat.zero_mul]

/-- The exponent that the loop finds. -/
theorem WF_of {t : Int} (hd : 0 < d) (h1 : -(f : Int) ≤ t) (h2 : t ≤ f + 1) (hb : ∀ j : Int, -(f : Int) ≤ j → j < t → belowB n d (i + j) = false) (ht : t ≤ f → belowB n d (i + t) = true) :
    WF m round i f n d = if t ≤ f then magF m round n d t * 2 ^ (t + f).toNat else 2 ^ (i + 2 * f) := by
  have hs : lexp (fun s => decide (n * 2 ^ f < d * 2 ^ (i + s))) (2 * f + 1) 0 = (t + f).toNat := by
    refine lexp_uniq _ _ _ (by omega) (fun j hj => ?_) fun hlt => ?_
    · rw [← belowB_grid (t := (j : Int) - f) (by omega)]
      exact hb _ (by omega) (by omega)
    · rw [← belowB_grid (t := t) (by omega)]
      exact ht (by omega)
  unfold WF
  simp only [hs]
  by_cases c : t ≤ f
  · rw [if_pos c, if_pos (by omega), magF_grid (f := f) hd (s := (t + f).toNat) (by omega)]
  · rw [if_neg c, if_neg (by omega)]

theorem mk_zero {e : Nat} : mk 0 ((2 ^ e : Nat) : Int) = (0, 1) := by
  have := mk_scale (n := 0) (d := 1) (c := 2 ^ e) (by omega) (Nat.pow_pos (by decide))
  rw [Int.one_mul, Int.zero_mul] at this
  rw [this]; decide

/-- Beyond the greatest exponent, or m 2^t. -/
theorem at58 (ok : FlOk i f) (hv : validB kind round over i f = true) (hk : sFix kind = false) {a t : Int} (a1 : -1073741824 ≤ a) (a2 : a ≤ 1073741824) (t1 : -(f : Int) ≤ t) (t2 : t ≤ f + 1) (v8 v9 : PV) :
    Evt fun k => (bif leI t (f : Int) then
      let c3 := EG k 42 [AO.pv (Ty.int IntKind.i64) (.int .i64 a), AO.pv (Ty.int IntKind.i64) (.int .i64 t)]
      bif okRes (Ty.st 25) c3 then some ([AO.pv (Ty.st 25) (PV.agg [(resPV c3).cell 0, (resPV c3).cell 1])], []) else none
      else J58_13 gate1 (EG k) k (.str kind) (.int .i64 i) (.int .i64 f) (.str round) (.str over) (.bool m) (.int .u64 n) (.int .u64 d) v8 v9) =
      some ([.pv (.st 25) (qv (if t ≤ f then mk (a * ((2 ^ (t + f).toNat : Nat) : Int)) ((2 ^ f : Nat) : Int) else bif sNone over then (0, 0) else mk (sK m ((2 ^ i - 1) * 2 ^ (2 * f))) ((2 ^ f : Nat) : Int)))], []) := by
  by_cases c : t ≤ f
  · obtain ⟨K, h⟩ := times42 a1 a2 (x := t) (by have := ok.f2; omega) (by have := ok.f2; omega)
    rw [timesQ_grid t1] at h
    refine ⟨K, fun k hk => ?_⟩
    have h := h k hk
    simp only [qv] at h ⊢
    rw [leI_t c, if_pos c]
    simp only [PV.cell, PV.cells, List.getD_cons_succ, List.getD_cons_zero, PV.toInt, PV.toStr, PV.toBool, okRes, resPV, Ty.eq, Nat.beq_refl, decide_true, Bool.not_true, Bool.not_false, cond_true, cond_false, h]
  · obtain ⟨K, h⟩ := beyond58 (m := m) (n := n) (d := d) ok hv hk v8 v9
    refine ⟨K, fun k hk => ?_⟩
    have h := h k hk
    rw [leI_f (by omega), if_neg c]
    simp only [cond_false]
    exact h

theorem float58 (ok : FlOk i f) (hv : validB kind round over i f = true) (hk : sFix kind = false) (hd : 0 < d)
    (hb : ∀ t, -(f : Int) ≤ t → t ≤ f → Ev 65 [.pv (.st 51) (xv m n d), .pv (.int .i64) (.int .i64 (i + t))] [.pv .bool (.bool (belowB n d (i + t)))])
    (hr : ∀ t, -(f : Int) ≤ t → t ≤ f → belowB n d (i + t) = true → Ev 63 [.pv (.st 51) (xv m n d), .pv (.int .i64) (.int .i64 (-t)), .pv .str (.str round)]
      [.pv (.st 71) (.agg [.bool (m && !eqI (magF m round n d t : Nat) 0), .int .u64 0, .int .u64 (magF m round n d t : Nat)])]) :
    Ev 58 [.pv (.st 23) (fv kind i f round over), .pv (.st 51) (xv m n d)] [.pv (.st 25) (qv (floatR m round over i f n d))] := by
  have okk := ok
  obtain ⟨i1, i2, f2, s⟩ := ok
  have hp : 2 ^ i ≤ 2 ^ 24 := Nat.pow_le_pow_right (by decide) (by omega)
  have hp0 : 0 < 2 ^ i := Nat.pow_pos (by decide)
  have q0 : 0 < 2 ^ (i + 2 * f) := Nat.pow_pos (by decide)
  by_cases hn : n = 0
  · subst hn
    have e : floatR m round over i f 0 d = (0, 1) := by
      unfold floatR
      rw [WF_zero hd, if_pos q0, sK_zero, mk_zero]
    rw [e]
    refine Ev.of 0 rfl fun k _ => ?_
    simp only [fv, xv, qv]
    rw [R58]
    simp only [PV.cell, PV.cells, List.getD_cons_succ, List.getD_cons_zero, PV.toInt, PV.toStr, PV.toBool, okRes, resPV, Ty.eq, Nat.beq_refl, decide_true, Bool.not_true, Bool.not_false, cond_true, cond_false]
    rfl
  · obtain ⟨t, t1, t2, t3, t4, K1, h1⟩ := float_loop (kind := kind) (round := round) (over := over) (m := m) (n := n) (d := d) (I := i) (F := f) (by omega) (by omega) (by omega) (by omega) hb (.int .i64 0) (.int .i64 0)
    have hW := WF_of (m := m) (round := round) hd t1 t2 t3 t4
    have u0 : ltI (IntKind.u64.wrap (i : Int)) 0 = false := by rw [uwrap_id (by omega) (by omega), ltI_f (by omega)]
    have w1 : IntKind.i64.wrap (1 * 2 ^ min (IntKind.u64.wrap (i : Int)).toNat 64) = ((2 ^ i : Nat) : Int) := by
      rw [shl1i (by omega) (by omega), Int.toNat_natCast]
    have w2 : IntKind.i64.wrap (0 - ((2 ^ i : Nat) : Int)) = -((2 ^ i : Nat) : Int) := by rw [wrap_id (by omega) (by omega)]; omega
    suffices hJ : Evt fun k => J58_6 gate1 (EG k) k (.str kind) (.int .i64 i) (.int .i64 f) (.str round) (.str over) (.bool m) (.int .u64 n) (.int .u64 d) (.int .i64 0) (.int .i64 0) (.int .i64 t) = some ([.pv (.st 25) (qv (floatR m round over i f n d))], []) by
      obtain ⟨K2, h2⟩ := hJ
      refine Ev.of (K1 + K2) rfl fun k hkk => ?_
      have h1 := h1 k k (by omega) (by omega)
      have h2 := h2 k (by omega)
      simp only [fv, xv] at h1 h2 ⊢
      rw [R58]
      simp only [PV.cell, PV.cells, List.getD_cons_succ, List.getD_cons_zero, PV.toInt, PV.toStr, PV.toBool, okRes, resPV, Ty.eq, Nat.beq_refl, decide_true, Bool.not_true, Bool.not_false, cond_true, cond_false]
      rw [eqI_f (show (n : Int) ≠ 0 by omega), J58_3_eq]
      simp only [PV.cell, PV.cells, List.getD_cons_succ, List.getD_cons_zero, PV.toInt, PV.toStr, PV.toBool, okRes, resPV, Ty.eq, Nat.beq_refl, decide_true, Bool.not_true, Bool.not_false, cond_true, cond_false]
      rw [wrap_id (by omega) (by omega), Int.zero_sub, h1, h2]
    by_cases c : t ≤ f
    · rw [if_pos c] at hW
      have hM : magF m round n d t ≤ 2 ^ i := by
        rw [magF_grid (f := f) hd (s := (t + f).toNat) (by omega)]
        refine mag_top hd ?_
        have := t4 c
        rw [belowB_grid (f := f) (s := (t + f).toNat) (by omega)] at this
        exact of_decide_eq_true this
      have hr' := hr t t1 c (t4 c)
      generalize hMg : magF m round n d t = M at *
      have hs := signed64 (m := m) (a := M) (by omega)
      by_cases hMt : M = 2 ^ i
      · -- one exponent up
        have e2 : (2 ^ i : Nat) = 2 ^ (i - 1) * 2 := by rw [← Nat.pow_succ]; congr 1; omega
        have w3 : IntKind.i64.wrap ((sK m M).tdiv 2) = sK m (2 ^ (i - 1)) := by
          rw [hMt, e2, sK_mul]
          rw [show ((2 : Nat) : Int) = 2 from rfl, Int.mul_tdiv_cancel _ (by decide)]
          refine wrap_id ?_ ?_ <;> · unfold sK; split <;> omega
        obtain ⟨K2, h2⟩ := (hr'.evt.and hs.evt).and (at58 (m := m) (n := n) (d := d) okk hv hk (a := sK m (2 ^ (i - 1))) (t := t + 1) (by unfold sK; split <;> omega) (by unfold sK; split <;> omega) (by omega) (by omega) (.int .i64 0) (.int .i64 0))
        refine ⟨K2, fun k hkk => ?_⟩
        obtain ⟨⟨h3, h4⟩, h5⟩ := h2 k hkk
        have hx : (if t + 1 ≤ (f : Int) then mk (sK m (2 ^ (i - 1)) * ((2 ^ (t + 1 + f).toNat : Nat) : Int)) ((2 ^ f : Nat) : Int) else bif sNone over then (0, 0) else mk (sK m ((2 ^ i - 1) * 2 ^ (2 * f))) ((2 ^ f : Nat) : Int)) = floatR m round over i f n d := by
          unfold floatR
          rw [hW, hMt, ← Nat.pow_add]
          by_cases c2 : t + 1 ≤ (f : Int)
          · rw [if_pos c2, if_pos (Nat.pow_lt_pow_right (by decide) (by omega)), ← sK_mul, ← Nat.pow_add]
            rw [show i - 1 + (t + 1 + (f : Int)).toNat = i + (t + f).toNat by omega]
          · rw [if_neg c2, if_neg (by rw [show i + (t + f).toNat = i + 2 * f by omega]; omega)]
        rw [hx] at h5
        simp only [xv] at h3
        rw [J58_6_eq]
        simp only [PV.cell, PV.cells, List.getD_cons_succ, List.getD_cons_zero, PV.toInt, PV.toStr, PV.toBool, okRes, resPV, Ty.eq, Nat.beq_refl, decide_true, Bool.not_true, Bool.not_false, cond_true, cond_false]
        rw [leI_t c, wrap_id (n := 0 - t) (by omega) (by omega), Int.zero_sub]
        simp only [PV.cell, PV.cells, List.getD_cons_succ, List.getD_cons_zero, PV.toInt, PV.toStr, PV.toBool, okRes, resPV, Ty.eq, Nat.beq_refl, decide_true, Bool.not_true, Bool.not_false, cond_true, cond_false, h3, h4, u0, w1, w2]
        have e10 : J58_10 gate1 (EG k) k (.str kind) (.int .i64 i) (.int .i64 f) (.str round) (.str over) (.bool m) (.int .u64 n) (.int .u64 d) (.int .i64 0) (.int .i64 0) (.int .i64 t) (.int .i64 (sK m M)) (.int .i64 (sK m M)) (.bool true) = some ([.pv (.st 25) (qv (floatR m round over i f n d))], []) := by
          rw [J58_10_eq, J58_11_eq]
          simp only [PV.cell, PV.cells, List.getD_cons_succ, List.getD_cons_zero, PV.toInt, PV.toStr, PV.toBool, okRes, resPV, Ty.eq, Nat.beq_refl, decide_true, Bool.not_true, Bool.not_false, cond_true, cond_false]
          rw [w3, wrap_id (n := t + 1) (by omega) (by omega)]
          simp only [PV.cell, PV.cells, List.getD_cons_succ, List.getD_cons_zero, PV.toInt, PV.toStr, PV.toBool, okRes, resPV, Ty.eq, Nat.beq_refl, decide_true, Bool.not_true, Bool.not_false, cond_true, cond_false] at h5
          exact h5
        cases m with
        | false =>
          rw [eqI_t (show sK false M = ((2 ^ i : Nat) : Int) by rw [hMt]; rfl)]
          rw [cond_true]; exact e10
        | true =>
          rw [eqI_f (show sK true M ≠ ((2 ^ i : Nat) : Int) by unfold sK; rw [if_pos rfl]; omega), eqI_t (show sK true M = -((2 ^ i : Nat) : Int) by unfold sK; rw [if_pos rfl, hMt]), cond_false, cond_true]
          exact e10
      · obtain ⟨K2, h2⟩ := (hr'.evt.and hs.evt).and (at58 (m := m) (n := n) (d := d) okk hv hk (a := sK m M) (t := t) (by unfold sK; split <;> omega) (by unfold sK; split <;> omega) (by omega) (by omega) (.int .i64 0) (.int .i64 0))
        refine ⟨K2, fun k hkk => ?_⟩
        obtain ⟨⟨h3, h4⟩, h5⟩ := h2 k hkk
        have hx : (if t ≤ (f : Int) then mk (sK m M * ((2 ^ (t + f).toNat : Nat) : Int)) ((2 ^ f : Nat) : Int) else bif sNone over then (0, 0) else mk (sK m ((2 ^ i - 1) * 2 ^ (2 * f))) ((2 ^ f : Nat) : Int)) = floatR m round over i f n d := by
          unfold floatR
          have hlt : M * 2 ^ (t + f).toNat < 2 ^ (i + 2 * f) := by
            rw [Nat.pow_add]
            have h1 : 2 ^ (t + f).toNat ≤ 2 ^ (2 * f) := Nat.pow_le_pow_right (by decide) (by omega)
            exact Nat.lt_of_lt_of_le (Nat.mul_lt_mul_of_pos_right (show M < 2 ^ i by omega) (Nat.pow_pos (by decide))) (Nat.mul_le_mul_left _ h1)
          rw [hW, if_pos c, if_pos hlt, sK_mul]
        rw [hx] at h5
        simp only [xv] at h3
        rw [J58_6_eq]
        simp only [PV.cell, PV.cells, List.getD_cons_succ, List.getD_cons_zero, PV.toInt, PV.toStr, PV.toBool, okRes, resPV, Ty.eq, Nat.beq_refl, decide_true, Bool.not_true, Bool.not_false, cond_true, cond_false]
        rw [leI_t c, wrap_id (n := 0 - t) (by omega) (by omega), Int.zero_sub]
        simp only [PV.cell, PV.cells, List.getD_cons_succ, List.getD_cons_zero, PV.toInt, PV.toStr, PV.toBool, okRes, resPV, Ty.eq, Nat.beq_refl, decide_true, Bool.not_true, Bool.not_false, cond_true, cond_false, h3, h4, u0, w1, w2]
        rw [eqI_f (show sK m M ≠ ((2 ^ i : Nat) : Int) by unfold sK; split <;> omega), eqI_f (show sK m M ≠ -((2 ^ i : Nat) : Int) by unfold sK; split <;> omega)]
        simp only [cond_false]
        rw [J58_11s1_eq]
        exact h5
    · rw [if_neg c] at hW
      obtain ⟨K2, h2⟩ := beyond58 (m := m) (n := n) (d := d) okk hv hk (.int .i64 0) (.int .i64 0)
      refine ⟨K2, fun k hkk => ?_⟩
      have h2 := h2 k hkk
      dsimp only
      rw [J58_6_eq]
      simp only [PV.cell, PV.cells, List.getD_cons_succ, List.getD_cons_zero, PV.toInt, PV.toStr, PV.toBool, okRes, resPV, Ty.eq, Nat.beq_refl, decide_true, Bool.not_true, Bool.not_false, cond_true, cond_false]
      rw [leI_f (by omega)]
      simp only [cond_false]
      unfold floatR
      rw [hW, if_neg (by omega)]
      exact h2
end
end Go.V

set_option linter.unusedSimpArgs false
set_option linter.unusedVariables false
set_option maxRecDepth 100000
namespace Go.V
open Go.Proofs

section
variable {round : ByteArray} {i f : Nat} {m : Bool} {n d n' d' : Nat}

/-- The exponent, and what it tells. -/
theorem WF_cases (hd : 0 < d) : (∃ s, s ≤ 2 * f ∧ n * 2 ^ f < d * 2 ^ (i + s) ∧ (∀ j, j < s → d * 2 ^ (i + j) ≤ n * 2 ^ f) ∧ WF m round i f n d = mag m round (n * 2 ^ f) (d * 2 ^ s) * 2 ^ s) ∨
    ((∀ j, j ≤ 2 * f → d * 2 ^ (i + j) ≤ n * 2 ^ f) ∧ WF m round i f n d = 2 ^ (i + 2 * f)) := by
  obtain ⟨_, h2, h3, h4⟩ := lexp_spec (fun s => decide (n * 2 ^ f < d * 2 ^ (i + s))) (2 * f + 1) 0
  unfold WF
  simp only
  generalize lexp (fun s => decide (n * 2 ^ f < d * 2 ^ (i + s))) (2 * f + 1) 0 = s at *
  by_cases c : s ≤ 2 * f
  · left
    refine ⟨s, c, of_decide_eq_true (h4 (by omega)), fun j hj => ?_, by rw [if_pos c]⟩
    have := of_decide_eq_false (h3 j (Nat.zero_le _) hj)
    omega
  · right
    refine ⟨fun j hj => ?_, by rw [if_neg c]⟩
    have := of_decide_eq_false (h3 j (Nat.zero_le _) (by omega))
    omega

theorem WF_le (hd : 0 < d) : WF m round i f n d ≤ 2 ^ (i + 2 * f) := by
  rcases WF_cases (m := m) (round := round) (i := i) (f := f) (n := n) hd with ⟨s, h1, h2, h3, e⟩ | ⟨_, e⟩
  · rw [e]
    have h := mag_top (m := m) (round := round) hd h2
    calc _ ≤ 2 ^ i * 2 ^ s := Nat.mul_le_mul_right _ h
      _ = 2 ^ (i + s) := (Nat.pow_add _ _ _).symm
      _ ≤ 2 ^ (i + 2 * f) := Nat.pow_le_pow_right (by decide) (by omega)
  · rw [e]; exact Nat.le_refl _

theorem WF_rep (hi : 1 ≤ i) (hd : 0 < d) (h : WF m round i f n d < 2 ^ (i + 2 * f)) : ∃ c s, c < 2 ^ i ∧ s ≤ 2 * f ∧ WF m round i f n d = c * 2 ^ s := by
  rcases WF_cases (m := m) (round := round) (i := i) (f := f) (n := n) hd with ⟨s, h1, h2, h3, e⟩ | ⟨_, e⟩
  · have ht := mag_top (m := m) (round := round) hd h2
    rw [e] at h ⊢
    generalize mag m round (n * 2 ^ f) (d * 2 ^ s) = M at *
    by_cases c : M < 2 ^ i
    · exact ⟨M, s, c, h1, rfl⟩
    · have hM : M = 2 ^ i := by omega
      subst hM
      rw [← Nat.pow_add] at h ⊢
      have : s < 2 * f := by
        apply Classical.byContradiction
        intro hc
        have := Nat.pow_le_pow_right (n := 2) (by decide) (show i + 2 * f ≤ i + s by omega)
        omega
      refine ⟨2 ^ (i - 1), s + 1, Nat.pow_lt_pow_right (by decide) (by omega), by omega, ?_⟩
      rw [← Nat.pow_add]; congr 1; omega
  · rw [e] at h; omega

theorem WF_mono (hi : 1 ≤ i) (hd : 0 < d) (hd' : 0 < d') (h : n * d' ≤ n' * d) : WF m round i f n d ≤ WF m round i f n' d' := by
  rcases WF_cases (m := m) (round := round) (i := i) (f := f) (n := n') hd' with ⟨s', a1, a2, a3, e'⟩ | ⟨_, e'⟩
  · have hA : n * 2 ^ f * d' ≤ n' * 2 ^ f * d := by
      rw [Nat.mul_right_comm, Nat.mul_right_comm n']; exact Nat.mul_le_mul_right _ h
    have up : ∀ E : Nat, n' * 2 ^ f < d' * E → n * 2 ^ f < d * E := by
      intro E hE
      have h1 : n' * 2 ^ f * d < d' * E * d := Nat.mul_lt_mul_of_pos_right hE hd
      have h2 : n * 2 ^ f * d' < d * E * d' := by
        calc _ ≤ _ := hA
          _ < _ := h1
          _ = d * E * d' := by ac_rfl
      exact Nat.lt_of_mul_lt_mul_right h2
    rcases WF_cases (m := m) (round := round) (i := i) (f := f) (n := n) hd with ⟨s, b1, b2, b3, e⟩ | ⟨b, e⟩
    · have hss : s ≤ s' := by
        apply Classical.byContradiction
        intro hc
        have := b3 s' (by omega)
        have := up _ a2
        omega
      rw [e, e']
      by_cases hs : s = s'
      · subst hs
        refine Nat.mul_le_mul_right _ (mag_mono (Nat.mul_pos hd (Nat.pow_pos (by decide))) (Nat.mul_pos hd' (Nat.pow_pos (by decide))) ?_)
        calc n * 2 ^ f * (d' * 2 ^ s) = n * 2 ^ f * d' * 2 ^ s := by ac_rfl
          _ ≤ n' * 2 ^ f * d * 2 ^ s := Nat.mul_le_mul_right _ hA
          _ = n' * 2 ^ f * (d * 2 ^ s) := by ac_rfl
      · have t1 := mag_top (m := m) (round := round) hd b2
        have t2 : 2 ^ (i - 1) ≤ mag m round (n' * 2 ^ f) (d' * 2 ^ s') := by
          refine int_le_mag (Nat.mul_pos hd' (Nat.pow_pos (by decide))) ?_
          have := a3 (s' - 1) (by omega)
          calc 2 ^ (i - 1) * (d' * 2 ^ s') = d' * (2 ^ (i - 1) * 2 ^ s') := by ac_rfl
            _ = d' * 2 ^ (i + (s' - 1)) := by rw [← Nat.pow_add]; congr 2; omega
            _ ≤ _ := this
        calc _ ≤ 2 ^ i * 2 ^ s := Nat.mul_le_mul_right _ t1
          _ = 2 ^ (i + s) := (Nat.pow_add _ _ _).symm
          _ ≤ 2 ^ (i - 1 + s') := Nat.pow_le_pow_right (by decide) (by omega)
          _ = 2 ^ (i - 1) * 2 ^ s' := Nat.pow_add _ _ _
          _ ≤ _ := Nat.mul_le_mul_right _ t2
    · exfalso
      have := b s' a1
      have := up _ a2
      omega
  · rw [e']; exact WF_le hd

theorem WF_exact {c s0 : Nat} (hd : 0 < d) (hc : c < 2 ^ i) (hs : s0 ≤ 2 * f) (h : n * 2 ^ f = c * 2 ^ s0 * d) : WF m round i f n d = c * 2 ^ s0 := by
  have hlt : n * 2 ^ f < d * 2 ^ (i + s0) := by
    rw [h, Nat.pow_add]
    calc c * 2 ^ s0 * d < 2 ^ i * 2 ^ s0 * d := Nat.mul_lt_mul_of_pos_right (Nat.mul_lt_mul_of_pos_right hc (Nat.pow_pos (by decide))) hd
      _ = d * (2 ^ i * 2 ^ s0) := by ac_rfl
  rcases WF_cases (m := m) (round := round) (i := i) (f := f) (n := n) hd with ⟨s, b1, b2, b3, e⟩ | ⟨b, e⟩
  · have hss : s ≤ s0 := by
      apply Classical.byContradiction
      intro hcc
      have := b3 s0 (by omega)
      omega
    rw [e, h]
    have e2 : c * 2 ^ s0 * d = c * 2 ^ (s0 - s) * (d * 2 ^ s) := by
      have : 2 ^ s0 = 2 ^ (s0 - s) * 2 ^ s := by rw [← Nat.pow_add]; congr 1; omega
      rw [this]; ac_rfl
    rw [e2, mag_int (Nat.mul_pos hd (Nat.pow_pos (by decide))), Nat.mul_assoc, ← Nat.pow_add]
    congr 2; omega
  · have := b s0 hs
    omega

/-- .. with a sign, within the greatest. -/
def gF (round : ByteArray) (i f : Nat) (N D : Int) : Int := sK (ltI N 0) (min (WF (ltI N 0) round i f N.natAbs D.natAbs) ((2 ^ i - 1) * 2 ^ (2 * f)))

theorem top_lt (hi : 1 ≤ i) : (2 ^ i - 1) * 2 ^ (2 * f) < 2 ^ (i + 2 * f) := by
  rw [Nat.pow_add]
  exact Nat.mul_lt_mul_of_pos_right (by have : 0 < 2 ^ i := Nat.pow_pos (by decide); omega) (Nat.pow_pos (by decide))

theorem WF_min (hi : 1 ≤ i) (hd : 0 < d) (h : WF m round i f n d < 2 ^ (i + 2 * f)) : WF m round i f n d ≤ (2 ^ i - 1) * 2 ^ (2 * f) := by
  obtain ⟨c, s, h1, h2, e⟩ := WF_rep hi hd h
  rw [e]
  exact Nat.mul_le_mul (by omega) (Nat.pow_le_pow_right (by decide) h2)

theorem floatR_eq {over : ByteArray} (hi : 1 ≤ i) {N D : Int} (hD : 1 ≤ D) :
    floatR (ltI N 0) round over i f N.natAbs D.natAbs = mk (gF round i f N D) ((2 ^ f : Nat) : Int) ∨ floatR (ltI N 0) round over i f N.natAbs D.natAbs = (0, 0) := by
  unfold floatR gF
  have hd : 0 < D.natAbs := by omega
  by_cases c : WF (ltI N 0) round i f N.natAbs D.natAbs < 2 ^ (i + 2 * f)
  · left
    rw [if_pos c, Nat.min_eq_left (WF_min hi hd c)]
  · rw [if_neg c]
    cases sNone over with
    | true => right; rfl
    | false =>
      left
      have := top_lt (f := f) hi
      rw [Nat.min_eq_right (by omega)]; rfl

theorem sK_mono {a b : Nat} {N N' : Int} (hN : N < 0 → N' < 0 → b ≤ a) (hP : 0 ≤ N → 0 ≤ N' → a ≤ b) (hx : N' < 0 → N < 0) : sK (ltI N 0) a ≤ sK (ltI N' 0) b := by
  by_cases c : N < 0
  · rw [ltI_t c]
    by_cases c' : N' < 0
    · rw [ltI_t c']; unfold sK; rw [if_pos rfl, if_pos rfl]; have := hN c c'; omega
    · rw [ltI_f (by omega)]; unfold sK; rw [if_pos rfl, if_neg (by decide)]; omega
  · rw [ltI_f (by omega)]
    by_cases c' : N' < 0
    · exact absurd (hx c') c
    · rw [ltI_f (by omega)]; unfold sK; rw [if_neg (by decide), if_neg (by decide)]; have := hP (by omega) (by omega); omega

theorem abs_le {a b c e : Int} (ha : 0 ≤ a) (hc : 0 ≤ c) (hb : 1 ≤ b) (he : 1 ≤ e) (h : a * e ≤ c * b) : a.natAbs * e.natAbs ≤ c.natAbs * b.natAbs := by
  obtain ⟨a, rfl⟩ := Int.eq_ofNat_of_zero_le ha
  obtain ⟨b, rfl⟩ := Int.eq_ofNat_of_zero_le (show 0 ≤ b by omega)
  obtain ⟨c, rfl⟩ := Int.eq_ofNat_of_zero_le hc
  obtain ⟨e, rfl⟩ := Int.eq_ofNat_of_zero_le (show 0 ≤ e by omega)
  exact_mod_cast h

theorem gF_mono (hi : 1 ≤ i) {N D N' D' : Int} (hD : 1 ≤ D) (hD' : 1 ≤ D') (h : N * D' ≤ N' * D) : gF round i f N D ≤ gF round i f N' D' := by
  unfold gF
  have mm : ∀ {a b c : Nat}, a ≤ b → min a c ≤ min b c := fun h => by omega
  refine sK_mono (fun c c' => ?_) (fun c c' => ?_) fun c => ?_
  · rw [ltI_t c, ltI_t c']
    have := abs_le (a := -N') (b := D') (c := -N) (e := D) (by omega) (by omega) hD' hD (by rw [Int.neg_mul, Int.neg_mul]; omega)
    rw [Int.natAbs_neg, Int.natAbs_neg] at this
    exact mm (WF_mono hi (by omega) (by omega) this)
  · rw [ltI_f c, ltI_f c']
    exact mm (WF_mono hi (by omega) (by omega) (abs_le c c' hD hD' h))
  · apply Classical.byContradiction
    intro hn
    have h1 := Int.mul_nonneg (show 0 ≤ N by omega) (show 0 ≤ D' by omega)
    have h2 := Int.mul_neg_of_neg_of_pos c (show 0 < D by omega)
    omega

theorem gF_rep (hi : 1 ≤ i) {N D : Int} (hD : 1 ≤ D) : ∃ c s, c < 2 ^ i ∧ s ≤ 2 * f ∧ gF round i f N D = sK (ltI N 0) (c * 2 ^ s) := by
  unfold gF
  have hd : 0 < D.natAbs := by omega
  have p0 : 0 < 2 ^ i := Nat.pow_pos (by decide)
  by_cases c : WF (ltI N 0) round i f N.natAbs D.natAbs < 2 ^ (i + 2 * f)
  · obtain ⟨x, s, h1, h2, e⟩ := WF_rep hi hd c
    refine ⟨x, s, h1, h2, ?_⟩
    rw [Nat.min_eq_left (WF_min hi hd c), e]
  · refine ⟨2 ^ i - 1, 2 * f, by omega, Nat.le_refl _, ?_⟩
    have := top_lt (f := f) hi
    rw [Nat.min_eq_right (by omega)]

/-- What a floating format has made stays. -/
theorem float_again {over : ByteArray} (hi : 1 ≤ i) {N D N' D' : Int} (hD : 1 ≤ D) (hD' : 1 ≤ D') (h : N' * ((2 ^ f : Nat) : Int) = gF round i f N D * D') :
    floatR (ltI N' 0) round over i f N'.natAbs D'.natAbs = mk (gF round i f N D) ((2 ^ f : Nat) : Int) := by
  obtain ⟨c, s, h1, h2, e⟩ := gF_rep (round := round) (f := f) hi (N := N) hD
  have hd : 0 < D'.natAbs := by omega
  rw [e] at h ⊢
  have ha : N'.natAbs * 2 ^ f = c * 2 ^ s * D'.natAbs := by
    have := congrArg Int.natAbs h
    rw [Int.natAbs_mul, Int.natAbs_mul, Int.natAbs_natCast] at this
    rw [this]; congr 1
    unfold sK; generalize c * 2 ^ s = z; split <;> omega
  have hw := WF_exact (m := ltI N' 0) (round := round) hd h1 h2 ha
  have hlt : c * 2 ^ s < 2 ^ (i + 2 * f) := by
    rw [Nat.pow_add]
    have h2' : 2 ^ s ≤ 2 ^ (2 * f) := Nat.pow_le_pow_right (by decide) h2
    exact Nat.lt_of_lt_of_le (Nat.mul_lt_mul_of_pos_right h1 (Nat.pow_pos (by decide))) (Nat.mul_le_mul_left _ h2')
  unfold floatR
  rw [hw, if_pos hlt]
  congr 1
  -- the signs agree, or it is nothing
  have pf : (0 : Int) < ((2 ^ f : Nat) : Int) := by have : 0 < 2 ^ f := Nat.pow_pos (by decide); omega
  generalize c * 2 ^ s = z at *
  unfold sK at h ⊢
  by_cases a : N < 0
  · rw [ltI_t a, if_pos rfl] at h ⊢
    by_cases b : N' < 0
    · rw [ltI_t b, if_pos rfl]
    · have h3 := Int.mul_nonneg (show 0 ≤ N' by omega) (Int.le_of_lt pf)
      have h4 := Int.mul_nonneg (Int.natCast_nonneg z) (show 0 ≤ D' by omega)
      rw [Int.neg_mul] at h
      have : (z : Int) * D' = 0 := by omega
      rcases Int.mul_eq_zero.1 this with h | h
      · rw [h]; split <;> rfl
      · omega
  · rw [ltI_f (show (0 : Int) ≤ N by omega)] at h ⊢
    simp only [Bool.false_eq_true, if_false] at h ⊢
    by_cases b : N' < 0
    · have h3 := Int.mul_neg_of_neg_of_pos b pf
      have h4 := Int.mul_nonneg (Int.natCast_nonneg z) (show 0 ≤ D' by omega)
      rw [h] at h3
      exact absurd h4 (by omega)
    · rw [ltI_f (show (0 : Int) ≤ N' by omega)]; simp only [Bool.false_eq_true, if_false]
end
end Go.V

set_option linter.unusedSimpArgs false
set_option linter.unusedVariables false
set_option maxRecDepth 100000
namespace Go.V
open Go.Proofs

/-- What a fixed format makes of a number. -/
def fixR (round over : ByteArray) (I F N D : Int) : Int × Int :=
  if -((2 ^ (I + F).toNat : Nat) : Int) ≤ Kof round F N D ∧ Kof round F N D < ((2 ^ (I + F).toNat : Nat) : Int) then mk (Kof round F N D) ((2 ^ F.toNat : Nat) : Int)
  else bif sSat over then mk (if N < 0 then -((2 ^ (I + F).toNat : Nat) : Int) else ((2 ^ (I + F).toNat : Nat) : Int) - 1) ((2 ^ F.toNat : Nat) : Int)
  else bif sWrap over then mk (wrapK (2 ^ (I + F).toNat) (Kof round F N D)) ((2 ^ F.toNat : Nat) : Int) else (0, 0)

/-- What Fit makes of a number. -/
def fitp (kind round over : ByteArray) (I F : Int) (a : Int × Int) : Int × Int :=
  bif validB kind round over I F && isp a then
    (bif sFix kind then fixR round over I F a.1 a.2 else floatR (ltI a.1 0) round over I.toNat F.toNat a.1.natAbs a.2.natAbs)
  else (0, 0)

section
variable {kind round over : ByteArray} {I F : Int}

theorem sSat_sat : sSat satS = true := by decide
theorem sSat_wrap : sSat wrapS = false := by decide
theorem sSat_none : sSat noneS = false := by decide
theorem sWrap_wrap : sWrap wrapS = true := by decide
theorem sWrap_none : sWrap noneS = false := by decide
theorem sWrap_sat : sWrap satS = false := by decide
theorem sNone_none : sNone noneS = true := by decide

theorem fix6 {a : Int × Int} (hv : validB kind round over I F = true) (hk : sFix kind = true) (ha : isp a = true) :
    Ev 6 [.pv (.st 23) (fv kind I F round over), .pv (.st 25) (qv a)] [.pv (.st 25) (qv (fixR round over I F a.1 a.2))] := by
  have hv16 := valid16b kind round over I F
  rw [hv] at hv16
  rcases (validB_facts hv).2 with ⟨_, ⟨hI, hF, hIF⟩, ho⟩ | ⟨h, _⟩
  · obtain ⟨q1, q2, q3, q4, _⟩ := isq_facts ha
    unfold fixR
    by_cases c : -((2 ^ (I + F).toNat : Nat) : Int) ≤ Kof round F a.1 a.2 ∧ Kof round F a.1 a.2 < ((2 ^ (I + F).toNat : Nat) : Int)
    · rw [if_pos c]
      exact fit6_in hk hv16 hI hF hIF ha c.1 c.2
    · rw [if_neg c]
      have hout : ¬ (mag (ltI a.1 0) round (a.1.natAbs * 2 ^ F.toNat) a.2.natAbs < 2 ^ (I + F).toNat ∨ (ltI a.1 0 = true ∧ mag (ltI a.1 0) round (a.1.natAbs * 2 ^ F.toNat) a.2.natAbs = 2 ^ (I + F).toNat)) := by
        intro h
        apply c
        rw [Kof_def]
        generalize mag (ltI a.1 0) round (a.1.natAbs * 2 ^ F.toNat) a.2.natAbs = M at *
        have p0 : 0 < 2 ^ (I + F).toNat := Nat.pow_pos (by decide)
        generalize 2 ^ (I + F).toNat = T at *
        unfold sK
        cases hl : ltI a.1 0 with
        | true => rw [if_pos rfl]; rcases h with h | ⟨_, h⟩ <;> omega
        | false =>
          rw [hl] at h
          simp only [Bool.false_eq_true, if_false, false_and, or_false] at h ⊢
          omega
      rcases ho with ho | ho | ho
      · subst ho
        rw [sSat_sat, cond_true]
        have := fit6_of hk hv16 ha (fix57_sat hk hv16 hI hF hIF (by omega) (by omega) (by omega) hout)
        by_cases hn : a.1 < 0
        · rw [ltI_t hn, if_pos rfl] at this; rw [if_pos hn]; exact this
        · rw [ltI_f (show (0 : Int) ≤ a.1 by omega)] at this
          simp only [Bool.false_eq_true, if_false] at this
          rw [if_neg hn]; exact this
      · subst ho
        rw [sSat_none, sWrap_none, cond_false, cond_false]
        exact fit6_of hk hv16 ha (fix57_none hI hF hIF (by omega) (by omega) (by omega) hout)
      · subst ho
        rw [sSat_wrap, sWrap_wrap, cond_false, cond_true]
        exact fit6_wrap hk hv16 hI hF hIF ha
  · rw [h] at hk; cases hk

theorem fit36f {m : Bool} {n d : Nat} (hk : sFix kind = false) {p : Int × Int} (h : Ev 58 [.pv (.st 23) (fv kind I F round over), .pv (.st 51) (xv m n d)] [.pv (.st 25) (qv p)]) :
    Ev 36 [.pv (.st 23) (fv kind I F round over), .pv (.st 51) (xv m n d)] [.pv (.st 25) (qv p)] := by
  unfold sFix at hk
  refine Evt.ev h.evt rfl fun k h => ?_
  simp only [fv, xv, qv] at h ⊢
  rw [R36]
  simp only [PV.cell, PV.cells, List.getD_cons_succ, List.getD_cons_zero, PV.toInt, PV.toStr, PV.toBool, okRes, resPV, Ty.eq, Nat.beq_refl, decide_true, Bool.not_true, Bool.not_false, cond_true, cond_false, hk, J36_3_eq, h]

theorem float6 {a : Int × Int} (hv : validB kind round over I F = true) (hk : sFix kind = false) (ha : isp a = true) :
    Ev 6 [.pv (.st 23) (fv kind I F round over), .pv (.st 25) (qv a)] [.pv (.st 25) (qv (floatR (ltI a.1 0) round over I.toNat F.toNat a.1.natAbs a.2.natAbs))] := by
  rcases (validB_facts hv).2 with ⟨h, _⟩ | ⟨_, ⟨hI1, hI2, hF, hF2, hIF⟩, ho⟩
  · rw [h] at hk; cases hk
  · obtain ⟨q1, q2, q3, q4, _⟩ := isq_facts ha
    obtain ⟨i, rfl⟩ := Int.eq_ofNat_of_zero_le (show 0 ≤ I by omega)
    obtain ⟨f, rfl⟩ := Int.eq_ofNat_of_zero_le hF
    simp only [Int.toNat_natCast]
    have h58 := float58 (m := ltI a.1 0) (n := a.1.natAbs) (d := a.2.natAbs) ⟨by omega, by omega, by omega, by omega⟩ hv hk (by omega)
      (fun t t1 t2 => below65 (by omega) (by omega) (by omega) (by omega))
      (fun t t1 t2 _ => roundedF (by omega) (by omega) (by omega) (by omega) (by omega))
    refine Evt.ev ((valid16b kind round over i f).evt.and ((isp35 a).evt.and ((of37 (n := a.1) (d := a.2) q3 q4 q1 q2).evt.and (fit36f hk h58).evt))) rfl fun k ⟨h1, h2, h3, h4⟩ => ?_
    rw [hv] at h1
    rw [ha] at h2
    simp only [fv, qv] at h1 h2 h3 h4 ⊢
    rw [R6]
    simp only [PV.cell, PV.cells, List.getD_cons_succ, List.getD_cons_zero, PV.toInt, PV.toStr, PV.toBool, okRes, resPV, Ty.eq, Nat.beq_refl, decide_true, Bool.not_true, Bool.not_false, cond_true, cond_false, h1, h2, h3, h4, J6_3_eq]

theorem fitp6 (a : Int × Int) : Ev 6 [.pv (.st 23) (fv kind I F round over), .pv (.st 25) (qv a)] [.pv (.st 25) (qv (fitp kind round over I F a))] := by
  unfold fitp
  cases hv : validB kind round over I F with
  | false =>
    refine Evt.ev (valid16b kind round over I F).evt rfl fun k h1 => ?_
    rw [hv] at h1
    simp only [fv, qv] at h1 ⊢
    rw [R6]
    simp only [PV.cell, PV.cells, List.getD_cons_succ, List.getD_cons_zero, PV.toInt, PV.toStr, PV.toBool, okRes, resPV, Ty.eq, Nat.beq_refl, decide_true, Bool.not_true, Bool.not_false, cond_true, cond_false, h1, J6_2_eq, Bool.false_and]
  | true =>
    cases ha : isp a with
    | false =>
      refine Evt.ev ((valid16b kind round over I F).evt.and (isp35 a).evt) rfl fun k ⟨h1, h2⟩ => ?_
      rw [hv] at h1
      rw [ha] at h2
      simp only [fv, qv] at h1 h2 ⊢
      rw [R6]
      simp only [PV.cell, PV.cells, List.getD_cons_succ, List.getD_cons_zero, PV.toInt, PV.toStr, PV.toBool, okRes, resPV, Ty.eq, Nat.beq_refl, decide_true, Bool.not_true, Bool.not_false, cond_true, cond_false, h1, h2, J6_2_eq, Bool.true_and]
    | true =>
      simp only [Bool.and_self, cond_true]
      cases hk : sFix kind with
      | true => exact fix6 hv hk ha
      | false => exact float6 hv hk ha

/-- Is it one of the values? -/
theorem is8 (a : Int × Int) : Ev 8 [.pv (.st 23) (fv kind I F round over), .pv (.st 25) (qv a)]
    [.pv .bool (.bool (validB kind round over I F && (isp a && (eqI (fitp kind round over I F a).1 a.1 && eqI (fitp kind round over I F a).2 a.2))))] := by
  refine Evt.ev ((valid16b kind round over I F).evt.and ((isp35 a).evt.and (fitp6 (kind := kind) (round := round) (over := over) (I := I) (F := F) a).evt)) rfl fun k ⟨h1, h2, h3⟩ => ?_
  simp only [fv, qv] at h1 h2 h3 ⊢
  rw [R8]
  simp only [PV.cell, PV.cells, List.getD_cons_succ, List.getD_cons_zero, PV.toInt, PV.toStr, PV.toBool, okRes, resPV, Ty.eq, Nat.beq_refl, decide_true, Bool.not_true, Bool.not_false, cond_true, cond_false, h1, h2, h3]
  cases validB kind round over I F <;> cases isp a <;> rfl

/-- The steps of a number in a format, within the ends. -/
def gW (kind round : ByteArray) (I F : Int) (a : Int × Int) : Int :=
  bif sFix kind then max (-((2 ^ (I + F).toNat : Nat) : Int)) (min (((2 ^ (I + F).toNat : Nat) : Int) - 1) (Kof round F a.1 a.2)) else gF round I.toNat F.toNat a.1 a.2

theorem gW_mono {a b : Int × Int} (hv : validB kind round over I F = true) (ha : isp a = true) (hb : isp b = true) (h : a.1 * b.2 ≤ b.1 * a.2) : gW kind round I F a ≤ gW kind round I F b := by
  obtain ⟨q1, _, _, _, _⟩ := isq_facts ha
  obtain ⟨r1, _, _, _, _⟩ := isq_facts hb
  unfold gW
  cases hk : sFix kind with
  | true =>
    have := Kof_mono (round := round) (F := F) q1 r1 h
    simp only [cond_true]; omega
  | false =>
    rcases (validB_facts hv).2 with ⟨h, _⟩ | ⟨_, ⟨hI1, _⟩, _⟩
    · rw [h] at hk; cases hk
    · exact gF_mono (by omega) q1 r1 h

theorem wrapK_range {T : Nat} {K : Int} (hT : 0 < T) : -(T : Int) ≤ wrapK T K ∧ wrapK T K < T := by
  unfold wrapK
  have h1 := Int.emod_nonneg (K + T) (show ((2 * T : Nat) : Int) ≠ 0 by omega)
  have h2 := Int.emod_lt_of_pos (K + T) (show (0 : Int) < ((2 * T : Nat) : Int) by omega)
  omega

/-- What is a number of Fit's: so many steps; and that stays. -/
theorem fitp_num {a : Int × Int} (h : isp (fitp kind round over I F a) = true) :
    validB kind round over I F = true ∧ isp a = true ∧ ∃ w, fitp kind round over I F a = mk w ((2 ^ F.toNat : Nat) : Int) ∧
      (∀ x, isp x = true → x.1 * ((2 ^ F.toNat : Nat) : Int) = w * x.2 → fitp kind round over I F x = mk w ((2 ^ F.toNat : Nat) : Int)) ∧
      (sWrap over = false → w = gW kind round I F a) := by
  unfold fitp at h
  cases hv : validB kind round over I F with
  | false => rw [hv] at h; exact absurd h (by simp [isp, isq_zero])
  | true =>
    cases ha : isp a with
    | false => rw [hv, ha] at h; exact absurd h (by simp [isp, isq_zero])
    | true =>
      refine ⟨rfl, rfl, ?_⟩
      rw [hv, ha] at h
      simp only [Bool.and_self, cond_true] at h
      obtain ⟨q1, _, _, _, _⟩ := isq_facts ha
      cases hk : sFix kind with
      | true =>
        rw [hk, cond_true] at h
        have p0 : 0 < 2 ^ (I + F).toNat := Nat.pow_pos (by decide)
        have again : ∀ w, -((2 ^ (I + F).toNat : Nat) : Int) ≤ w → w < ((2 ^ (I + F).toNat : Nat) : Int) → ∀ x, isp x = true → x.1 * ((2 ^ F.toNat : Nat) : Int) = w * x.2 → fitp kind round over I F x = mk w ((2 ^ F.toNat : Nat) : Int) := by
          intro w w1 w2 x hx hxw
          obtain ⟨x1, _, _, _, _⟩ := isq_facts hx
          unfold fitp fixR
          rw [hv, hx, hk]
          simp only [Bool.and_self, cond_true]
          rw [Kof_exact x1 hxw, if_pos ⟨w1, w2⟩]
        have e : fitp kind round over I F a = fixR round over I F a.1 a.2 := by
          unfold fitp; rw [hv, ha, hk]; rfl
        rw [e]
        unfold fixR at h ⊢
        unfold gW
        rw [hk, cond_true]
        have hsg : (a.1 < 0 → Kof round F a.1 a.2 ≤ 0) ∧ (0 ≤ a.1 → 0 ≤ Kof round F a.1 a.2) := by
          rw [Kof_def]
          refine ⟨fun h => ?_, fun h => ?_⟩
          · rw [ltI_t h]; unfold sK; rw [if_pos rfl]; omega
          · rw [ltI_f h]; unfold sK; rw [if_neg (by decide)]; omega
        generalize Kof round F a.1 a.2 = K at *
        generalize 2 ^ (I + F).toNat = T at *
        by_cases c : -(T : Int) ≤ K ∧ K < (T : Int)
        · rw [if_pos c] at h ⊢
          exact ⟨K, rfl, again K c.1 c.2, fun _ => by omega⟩
        · rw [if_neg c] at h ⊢
          rcases (validB_facts hv).2 with ⟨_, ⟨hI, hF, hIF⟩, ho⟩ | ⟨h, _⟩
          · rcases ho with ho | ho | ho
            · subst ho
              rw [sSat_sat, cond_true] at h ⊢
              refine ⟨_, rfl, again _ (by split <;> omega) (by split <;> omega), fun _ => ?_⟩
              split <;> omega
            · subst ho
              rw [sSat_none, sWrap_none, cond_false, cond_false] at h
              exact absurd h (by simp [isp, isq_zero])
            · subst ho
              rw [sSat_wrap, sWrap_wrap, cond_false, cond_true] at h ⊢
              have := wrapK_range (T := T) (K := K) p0
              exact ⟨_, rfl, again _ this.1 this.2, fun h => by cases h⟩
          · rw [h] at hk; cases hk
      | false =>
        rw [hk, cond_false] at h
        rcases (validB_facts hv).2 with ⟨h, _⟩ | ⟨_, ⟨hI1, hI2, hF, hF2, hIF⟩, ho⟩
        · rw [h] at hk; cases hk
        · have e : fitp kind round over I F a = floatR (ltI a.1 0) round over I.toNat F.toNat a.1.natAbs a.2.natAbs := by
            unfold fitp; rw [hv, ha, hk]; rfl
          rw [e]
          rcases floatR_eq (round := round) (i := I.toNat) (f := F.toNat) (over := over) (N := a.1) (D := a.2) (by omega) q1 with e2 | e2
          · refine ⟨gF round I.toNat F.toNat a.1 a.2, e2, fun x hx hxw => ?_, fun _ => by unfold gW; rw [hk]; rfl⟩
            obtain ⟨x1, _, _, _, _⟩ := isq_facts hx
            unfold fitp
            rw [hv, hx, hk]
            simp only [Bool.and_self, cond_true, cond_false]
            exact float_again (by omega) q1 x1 hxw
          · rw [e2] at h; exact absurd h (by simp [isp, isq_zero])
end
end Go.V
