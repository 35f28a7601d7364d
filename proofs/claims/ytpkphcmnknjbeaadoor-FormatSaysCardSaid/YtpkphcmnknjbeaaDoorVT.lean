/- The reference's further functions against the program's, and the law FormatSays itself. Conditions: those that each theorem names. -/
import Derived.Test.YtpkphcmnknjbeaaDoorVS
import Derived.Test.YtpkphcmnknjbeaaDoorVJ
set_option linter.unusedSimpArgs false
set_option linter.unusedVariables false
set_option maxRecDepth 100000
namespace Go.V
open Go.Proofs

section
variable {kind round over : ByteArray} {I F : Int}

theorem j21_5 (call : CallF) (k : Nat) (b : Bool) (v0 v3 v4 v6 : PV) : J21_5 gate1 call k v0 (.int .i64 I) (.int .i64 F) v3 v4 (.bool b) v6 = some ([.pv .bool (.bool (b && b13 I F))], []) := by
  rw [J21_5_eq]
  simp only [PV.toBool, PV.toInt, b13]
  cases b <;> cases leI 0 I <;> cases leI I 30 <;> cases leI 0 F <;> cases leI F 30 <;> rfl

theorem j21_7 (call : CallF) (k : Nat) (b : Bool) (v3 v4 v6 : PV) : J21_7 gate1 call k (.str kind) (.int .i64 I) (.int .i64 F) v3 v4 (.bool b) v6 = some ([.pv .bool (.bool (sFloat kind && (b && bFl I F)))], []) := by
  rw [J21_7_eq]
  unfold sFloat
  simp only [PV.toBool, PV.toInt, PV.toStr, bFl]
  cases (kind.data.toList == (ByteArray.mk #[102, 108, 111, 97, 116]).data.toList) <;> cases b <;> cases leI 1 I <;> cases leI I 24 <;> cases leI 0 F <;> cases leI F 20 <;> rfl

theorem j21_3 (call : CallF) (k : Nat) (v3 : PV) : J21_3 gate1 call k (.str kind) (.int .i64 I) (.int .i64 F) v3 (.str over) =
    some ([.pv .bool (.bool (bif sSat over then bKind kind I F else bif sNone over then bKind kind I F else bif sWrap over then (bif !sFix kind then false else bKind kind I F) else false))], []) := by
  rw [J21_3_eq, J21_6_eq]
  unfold bKind sSat sNone sWrap sFix
  simp only [PV.toBool, PV.toStr, j21_5, j21_7]
  cases (kind.data.toList == (ByteArray.mk #[102, 105, 120]).data.toList) <;> cases (over.data.toList == (ByteArray.mk #[115, 97, 116]).data.toList) <;> cases (over.data.toList == (ByteArray.mk #[119, 114, 97, 112]).data.toList) <;>
    cases (over.data.toList == (ByteArray.mk #[110, 111, 110, 101]).data.toList) <;> cases sFloat kind <;> simp

theorem valid21 (kind round over : ByteArray) (I F : Int) : Ev 21 [.pv (.st 23) (fv kind I F round over)] [.pv .bool (.bool (validB kind round over I F))] := by
  refine Ev.of 0 rfl fun k _ => ?_
  rw [R21]
  unfold validB sFloor sNear sZero
  simp only [fv, PV.cell, PV.cells, List.getD_cons_succ, List.getD_cons_zero, PV.toStr, J21_2_eq, j21_3]
  cases (round.data.toList == (ByteArray.mk #[102, 108, 111, 111, 114]).data.toList) <;> cases (round.data.toList == (ByteArray.mk #[110, 101, 97, 114]).data.toList) <;> cases (round.data.toList == (ByteArray.mk #[122, 101, 114, 111]).data.toList) <;> simp

theorem fit51 {N D : Int} (hv : validB kind round over I F = true) (n1 : -2305843009213693952 ≤ N) (n2 : N ≤ 2305843009213693952) (d1 : 0 < D) (d2 : D ≤ 1152921504606846976) :
    Ev 51 [.pv (.st 23) (fv kind I F round over), .pv (.st 63) (qv (N, D))] [.pv (.st 25) (qv (fitW kind round over I F N D))] := by
  unfold fitW fitM
  cases hk : sFix kind with
  | true =>
    have h := fix61 hv hk n1 n2 d1 d2
    unfold sFix at hk
    refine Evt.ev h.evt rfl fun k h => ?_
    simp only [fv, qv] at h ⊢
    rw [R51]
    simp only [PV.cell, PV.cells, List.getD_cons_succ, List.getD_cons_zero, PV.toInt, PV.toStr, PV.toBool, okRes, resPV, Ty.eq, Nat.beq_refl, decide_true, Bool.not_true, Bool.not_false, cond_true, cond_false, hk, h]
  | false =>
    rcases (validB_facts hv).2 with ⟨h, _⟩ | ⟨_, ⟨hI1, hI2, hF, hF2, hIF⟩, ho⟩
    · rw [h] at hk; cases hk
    · obtain ⟨i, rfl⟩ := Int.eq_ofNat_of_zero_le (show 0 ≤ I by omega)
      obtain ⟨f, rfl⟩ := Int.eq_ofNat_of_zero_le hF
      simp only [Int.toNat_natCast, cond_false]
      have h := float62 (kind := kind) (round := round) (over := over) (N := N) (D := D) ⟨by omega, by omega, by omega, by omega⟩ hv hk n1 n2 d1 d2
      unfold sFix at hk
      refine Evt.ev h.evt rfl fun k h => ?_
      simp only [fv, qv] at h ⊢
      rw [R51]
      simp only [PV.cell, PV.cells, List.getD_cons_succ, List.getD_cons_zero, PV.toInt, PV.toStr, PV.toBool, okRes, resPV, Ty.eq, Nat.beq_refl, decide_true, Bool.not_true, Bool.not_false, cond_true, cond_false, hk, J51_3_eq, h]

theorem fitp_W {a : Int × Int} (hv : validB kind round over I F = true) (ha : isp a = true) : fitp kind round over I F a = fitW kind round over I F a.1 a.2 := by
  unfold fitp fitW fitM
  rw [hv, ha]
  simp only [Bool.and_self, cond_true]
  cases sFix kind with
  | false => rfl
  | true =>
    simp only [cond_true]
    unfold fixR fixM
    rw [← Kof_def]
    by_cases c : a.1 < 0
    · rw [ltI_t c, if_pos c, if_pos rfl]
    · rw [ltI_f (show 0 ≤ a.1 by omega), if_neg c]; rfl

theorem wide52 (a : Int × Int) : Ev 52 [.pv (.st 25) (qv a)] [.pv (.st 63) (qv a)] := Ev.of 0 rfl fun k _ => by
  simp only [qv]
  rw [R52]
  simp only [PV.cell, PV.cells, List.getD_cons_succ, List.getD_cons_zero, PV.toInt, PV.toStr, PV.toBool, okRes, resPV, Ty.eq, Nat.beq_refl, decide_true, Bool.not_true, Bool.not_false, cond_true, cond_false]

theorem fit26 (a : Int × Int) : Ev 26 [.pv (.st 23) (fv kind I F round over), .pv (.st 25) (qv a)] [.pv (.st 25) (qv (fitp kind round over I F a))] := by
  cases hv : validB kind round over I F with
  | false =>
    have e : fitp kind round over I F a = (0, 0) := by unfold fitp; rw [hv]; rfl
    rw [e]
    refine Evt.ev ((valid21 kind round over I F).evt.and none48.evt) rfl fun k ⟨h1, h2⟩ => ?_
    rw [hv] at h1
    simp only [fv, qv] at h1 h2 ⊢
    rw [R26]
    simp only [PV.cell, PV.cells, List.getD_cons_succ, List.getD_cons_zero, PV.toInt, PV.toStr, PV.toBool, okRes, resPV, Ty.eq, Nat.beq_refl, decide_true, Bool.not_true, Bool.not_false, cond_true, cond_false, h1, J26_2_eq, h2]
  | true =>
    cases ha : isp a with
    | false =>
      have e : fitp kind round over I F a = (0, 0) := by unfold fitp; rw [hv, ha]; rfl
      rw [e]
      refine Evt.ev ((valid21 kind round over I F).evt.and (none48.evt.and (isp7 a).evt)) rfl fun k ⟨h1, h2, h3⟩ => ?_
      rw [hv] at h1
      rw [ha] at h3
      simp only [fv, qv] at h1 h2 h3 ⊢
      rw [R26]
      simp only [PV.cell, PV.cells, List.getD_cons_succ, List.getD_cons_zero, PV.toInt, PV.toStr, PV.toBool, okRes, resPV, Ty.eq, Nat.beq_refl, decide_true, Bool.not_true, Bool.not_false, cond_true, cond_false, h1, J26_2_eq, h2, h3]
    | true =>
      rw [fitp_W hv ha]
      obtain ⟨p1, p2, p3, p4, _⟩ := isq_facts ha
      refine Evt.ev ((valid21 kind round over I F).evt.and (((isp7 a).evt.and (wide52 a).evt).and (fit51 (N := a.1) (D := a.2) hv (by omega) (by omega) (by omega) (by omega)).evt)) rfl fun k ⟨h1, ⟨h3, h4⟩, h5⟩ => ?_
      rw [hv] at h1
      rw [ha] at h3
      simp only [fv, qv] at h1 h3 h4 h5 ⊢
      rw [R26]
      simp only [PV.cell, PV.cells, List.getD_cons_succ, List.getD_cons_zero, PV.toInt, PV.toStr, PV.toBool, okRes, resPV, Ty.eq, Nat.beq_refl, decide_true, Bool.not_true, Bool.not_false, cond_true, cond_false, h1, J26_3_eq, h3, h4, h5]

/-- Numbers in lowest terms that are the same. -/
theorem num_ext {x a : Int × Int} (hx : isp x = true) (ha : isp a = true) (h : x.1 * a.2 = a.1 * x.2) : x = a := by
  obtain ⟨x1, _, _, _, gx⟩ := isq_facts hx
  obtain ⟨a1, _, _, _, ga⟩ := isq_facts ha
  have hn : x.1.natAbs * a.2.natAbs = a.1.natAbs * x.2.natAbs := by rw [← Int.natAbs_mul, ← Int.natAbs_mul, h]
  have d1 : x.2.natAbs ∣ a.2.natAbs := Nat.Coprime.dvd_of_dvd_mul_left (show Nat.Coprime x.2.natAbs x.1.natAbs from gx) ⟨a.1.natAbs, by rw [hn, Nat.mul_comm]⟩
  have d2 : a.2.natAbs ∣ x.2.natAbs := Nat.Coprime.dvd_of_dvd_mul_left (show Nat.Coprime a.2.natAbs a.1.natAbs from ga) ⟨x.1.natAbs, by rw [← hn, Nat.mul_comm]⟩
  have e2 : x.2 = a.2 := by have := Nat.dvd_antisymm d1 d2; omega
  have e1 : x.1 = a.1 := by rw [e2] at h; exact Int.eq_of_mul_eq_mul_right (by omega) h
  exact Prod.ext e1 e2

theorem eqI_rfl (x : Int) : eqI x x = true := eqI_t rfl

theorem cmp_same {x a : Int × Int} (ha : isp a = true) : eqI (cmpp x a) 0 = (eqI x.1 a.1 && eqI x.2 a.2) := by
  by_cases e : x = a
  · subst e
    rw [eqI_rfl, eqI_rfl]
    unfold cmpp
    rw [ha, ltI_f (Int.le_refl _)]; rfl
  · have h1 : (eqI x.1 a.1 && eqI x.2 a.2) = false := by
      by_cases c1 : x.1 = a.1
      · have c2 : x.2 ≠ a.2 := fun c2 => e (Prod.ext c1 c2)
        rw [eqI_t c1, eqI_f c2]; rfl
      · rw [eqI_f c1]; rfl
    rw [h1]
    refine eqI_f fun hc => e ?_
    unfold cmpp at hc
    rw [ha] at hc
    cases hx : isp x with
    | false => rw [hx] at hc; simp at hc
    | true =>
      rw [hx] at hc
      simp only [Bool.not_true, Bool.and_self, cond_false] at hc
      refine num_ext hx ha ?_
      by_cases l1 : x.1 * a.2 < a.1 * x.2
      · rw [ltI_t l1] at hc; exact absurd hc (by simp)
      · rw [ltI_f (by omega), cond_false] at hc
        by_cases l2 : a.1 * x.2 < x.1 * a.2
        · rw [ltI_t l2] at hc; exact absurd hc (by simp)
        · omega

def isM (kind round over : ByteArray) (I F : Int) (a : Int × Int) : Bool := validB kind round over I F && (isp a && (eqI (fitp kind round over I F a).1 a.1 && eqI (fitp kind round over I F a).2 a.2))

theorem is27 (a : Int × Int) : Ev 27 [.pv (.st 23) (fv kind I F round over), .pv (.st 25) (qv a)] [.pv .bool (.bool (isM kind round over I F a))] := by
  refine Evt.ev ((valid21 kind round over I F).evt.and ((isp7 a).evt.and ((fit26 (kind := kind) (round := round) (over := over) (I := I) (F := F) a).evt.and (cmp9 (fitp kind round over I F a) a).evt))) rfl fun k ⟨h1, h2, h3, h4⟩ => ?_
  have key : isp a = true → eqI (cmpp (fitp kind round over I F a) a) 0 = (eqI (fitp kind round over I F a).1 a.1 && eqI (fitp kind round over I F a).2 a.2) := cmp_same
  simp only [fv, qv] at h1 h2 h3 h4 ⊢
  rw [R27]
  simp only [PV.cell, PV.cells, List.getD_cons_succ, List.getD_cons_zero, PV.toInt, PV.toStr, PV.toBool, okRes, resPV, Ty.eq, Nat.beq_refl, decide_true, Bool.not_true, Bool.not_false, cond_true, cond_false, h1, h2, h3, h4]
  unfold isM
  cases validB kind round over I F with
  | false => rfl
  | true =>
    cases ha : isp a with
    | false => rfl
    | true => simp only [cond_true, key ha, Bool.true_and]
end
end Go.V

set_option linter.unusedSimpArgs false
set_option linter.unusedVariables false
set_option maxRecDepth 100000
namespace Go.V
open Go.Proofs

section
variable {kind round over : ByteArray} {I F : Int}

def leastM (kind round over : ByteArray) (I F : Int) : Int × Int :=
  bif validB kind round over I F then (bif sFix kind then mk (-((2 ^ (I + F).toNat : Nat) : Int)) ((2 ^ F.toNat : Nat) : Int) else mk (-(((2 ^ I.toNat - 1) * 2 ^ (2 * F.toNat) : Nat) : Int)) ((2 ^ F.toNat : Nat) : Int)) else (0, 0)
def greatestM (kind round over : ByteArray) (I F : Int) : Int × Int :=
  bif validB kind round over I F then (bif sFix kind then mk (((2 ^ (I + F).toNat : Nat) : Int) - 1) ((2 ^ F.toNat : Nat) : Int) else mk (((2 ^ I.toNat - 1) * 2 ^ (2 * F.toNat) : Nat) : Int) ((2 ^ F.toNat : Nat) : Int)) else (0, 0)
def stepM (kind round over : ByteArray) (I F : Int) : Int × Int := bif validB kind round over I F then mk 1 ((2 ^ F.toNat : Nat) : Int) else (0, 0)

/-- Both kinds of formats that are ones. -/
theorem valid_cases (hv : validB kind round over I F = true) : (sFix kind = true ∧ 0 ≤ I ∧ 0 ≤ F ∧ I + F ≤ 30) ∨ (sFix kind = false ∧ ∃ i f : Nat, I = i ∧ F = f ∧ FlOk i f) := by
  rcases (validB_facts hv).2 with ⟨h, ⟨a, b, c⟩, _⟩ | ⟨h, ⟨a, b, c, d, e⟩, _⟩
  · exact .inl ⟨h, a, b, c⟩
  · exact .inr ⟨h, I.toNat, F.toNat, by omega, by omega, ⟨by omega, by omega, by omega, by omega⟩⟩

theorem least11M : Ev 11 [.pv (.st 23) (fv kind I F round over)] [.pv (.st 25) (qv (leastM kind round over I F))] := by
  unfold leastM
  cases hv : validB kind round over I F with
  | false =>
    refine Evt.ev (valid16b kind round over I F).evt rfl fun k h1 => ?_
    rw [hv] at h1
    simp only [fv, qv] at h1 ⊢
    rw [R11]
    simp only [PV.cell, PV.cells, List.getD_cons_succ, List.getD_cons_zero, PV.toInt, PV.toStr, PV.toBool, okRes, resPV, Ty.eq, Nat.beq_refl, decide_true, Bool.not_true, Bool.not_false, cond_true, cond_false, h1]
  | true =>
    have hv16 := valid16b kind round over I F
    rw [hv] at hv16
    rcases valid_cases hv with ⟨hk, hI, hF, hIF⟩ | ⟨hk, i, f, rfl, rfl, ok⟩
    · rw [hk]; exact least11 hk hv16 hI hF hIF
    · rw [hk]; exact least11f ok hv hk

theorem greatest12M : Ev 12 [.pv (.st 23) (fv kind I F round over)] [.pv (.st 25) (qv (greatestM kind round over I F))] := by
  unfold greatestM
  cases hv : validB kind round over I F with
  | false =>
    refine Evt.ev (valid16b kind round over I F).evt rfl fun k h1 => ?_
    rw [hv] at h1
    simp only [fv, qv] at h1 ⊢
    rw [R12]
    simp only [PV.cell, PV.cells, List.getD_cons_succ, List.getD_cons_zero, PV.toInt, PV.toStr, PV.toBool, okRes, resPV, Ty.eq, Nat.beq_refl, decide_true, Bool.not_true, Bool.not_false, cond_true, cond_false, h1]
  | true =>
    have hv16 := valid16b kind round over I F
    rw [hv] at hv16
    rcases valid_cases hv with ⟨hk, hI, hF, hIF⟩ | ⟨hk, i, f, rfl, rfl, ok⟩
    · rw [hk]; exact greatest12 hk hv16 hI hF hIF
    · rw [hk]; exact greatest12f ok hv hk

theorem step24M : Ev 24 [.pv (.st 23) (fv kind I F round over)] [.pv (.st 25) (qv (stepM kind round over I F))] := by
  unfold stepM
  cases hv : validB kind round over I F with
  | false =>
    refine Evt.ev (valid16b kind round over I F).evt rfl fun k h1 => ?_
    rw [hv] at h1
    simp only [fv, qv] at h1 ⊢
    rw [R24]
    simp only [PV.cell, PV.cells, List.getD_cons_succ, List.getD_cons_zero, PV.toInt, PV.toStr, PV.toBool, okRes, resPV, Ty.eq, Nat.beq_refl, decide_true, Bool.not_true, Bool.not_false, cond_true, cond_false, h1]
  | true =>
    rcases valid_cases hv with ⟨hk, hI, hF, hIF⟩ | ⟨hk, i, f, rfl, rfl, ⟨_, _, _, _⟩⟩
    · exact step24 hF (by omega) hv
    · exact step24 (by omega) (by omega) hv

theorem pow_bd {e n : Nat} (h : e ≤ n) : 0 < 2 ^ e ∧ 2 ^ e ≤ 2 ^ n := ⟨Nat.pow_pos (by decide), Nat.pow_le_pow_right (by decide) h⟩

theorem least22M : Ev 22 [.pv (.st 23) (fv kind I F round over)] [.pv (.st 25) (qv (leastM kind round over I F))] := by
  unfold leastM
  cases hv : validB kind round over I F with
  | false =>
    refine Evt.ev ((valid21 kind round over I F).evt.and none48.evt) rfl fun k ⟨h1, h2⟩ => ?_
    rw [hv] at h1
    simp only [fv, qv] at h1 h2 ⊢
    rw [R22]
    simp only [PV.cell, PV.cells, List.getD_cons_succ, List.getD_cons_zero, PV.toInt, PV.toStr, PV.toBool, okRes, resPV, Ty.eq, Nat.beq_refl, decide_true, Bool.not_true, Bool.not_false, cond_true, cond_false, h1, h2]
  | true =>
    rcases valid_cases hv with ⟨hk, hI, hF, hIF⟩ | ⟨hk, i, f, rfl, rfl, ⟨i1, i2, f2, s⟩⟩
    · have hT := pow_bd (e := (I + F).toNat) (n := 30) (by omega)
      have hP := pow_bd (e := F.toNat) (n := 30) (by omega)
      rw [hk]
      refine Evt.ev ((valid21 kind round over I F).evt.and (((two49 (k := I + F) (by omega) (by omega)).evt.and (two49 (k := F) (by omega) (by omega)).evt).and (make46g (n := -((2 ^ (I + F).toNat : Nat) : Int)) (d := ((2 ^ F.toNat : Nat) : Int)) (by omega) (by omega) (by omega) (by omega)).evt)) rfl fun k ⟨h1, ⟨h2, h3⟩, h4⟩ => ?_
      rw [hv] at h1
      unfold sFix at hk
      simp only [fv, qv] at h1 h4 ⊢
      rw [R22]
      simp only [PV.cell, PV.cells, List.getD_cons_succ, List.getD_cons_zero, PV.toInt, PV.toStr, PV.toBool, okRes, resPV, Ty.eq, Nat.beq_refl, decide_true, Bool.not_true, Bool.not_false, cond_true, cond_false, h1, J22_3_eq, hk]
      rw [wrap_id (n := I + F) (by omega) (by omega)]
      simp only [PV.cell, PV.cells, List.getD_cons_succ, List.getD_cons_zero, PV.toInt, PV.toStr, PV.toBool, okRes, resPV, Ty.eq, Nat.beq_refl, decide_true, Bool.not_true, Bool.not_false, cond_true, cond_false, h2, h3]
      rw [wrap_id (n := 0 - ((2 ^ (I + F).toNat : Nat) : Int)) (by omega) (by omega), Int.zero_sub]
      simp only [PV.cell, PV.cells, List.getD_cons_succ, List.getD_cons_zero, PV.toInt, PV.toStr, PV.toBool, okRes, resPV, Ty.eq, Nat.beq_refl, decide_true, Bool.not_true, Bool.not_false, cond_true, cond_false, h4]
    · have hi := pow_bd (e := i) (n := 24) (by omega)
      have h50 := scaled50 (m := -((2 ^ i - 1 : Nat) : Int)) (x := (f : Int)) (by omega) (by omega) (by omega) (by omega)
      rw [timesQ_grid (f := f) (by omega), show ((f : Int) + f).toNat = 2 * f by omega, Int.neg_mul, ← Int.natCast_mul] at h50
      rw [hk]
      have h49 := two49 (k := (i : Int)) (by omega) (by omega)
      rw [Int.toNat_natCast] at h49
      refine Evt.ev ((valid21 kind round over i f).evt.and (h49.evt.and h50.evt)) rfl fun k ⟨h1, h2, h3⟩ => ?_
      rw [hv] at h1
      unfold sFix at hk
      simp only [fv, qv, Int.toNat_natCast, cond_true, cond_false] at h1 h3 ⊢
      rw [R22]
      simp only [PV.cell, PV.cells, List.getD_cons_succ, List.getD_cons_zero, PV.toInt, PV.toStr, PV.toBool, okRes, resPV, Ty.eq, Nat.beq_refl, decide_true, Bool.not_true, Bool.not_false, cond_true, cond_false, h1, J22_3_eq, hk, J22_5_eq, h2]
      rw [wrap_id (n := 1 - ((2 ^ i : Nat) : Int)) (by omega) (by omega), show (1 : Int) - ((2 ^ i : Nat) : Int) = -((2 ^ i - 1 : Nat) : Int) by omega]
      simp only [PV.cell, PV.cells, List.getD_cons_succ, List.getD_cons_zero, PV.toInt, PV.toStr, PV.toBool, okRes, resPV, Ty.eq, Nat.beq_refl, decide_true, Bool.not_true, Bool.not_false, cond_true, cond_false, h3]

theorem greatest23M : Ev 23 [.pv (.st 23) (fv kind I F round over)] [.pv (.st 25) (qv (greatestM kind round over I F))] := by
  unfold greatestM
  cases hv : validB kind round over I F with
  | false =>
    refine Evt.ev ((valid21 kind round over I F).evt.and none48.evt) rfl fun k ⟨h1, h2⟩ => ?_
    rw [hv] at h1
    simp only [fv, qv] at h1 h2 ⊢
    rw [R23]
    simp only [PV.cell, PV.cells, List.getD_cons_succ, List.getD_cons_zero, PV.toInt, PV.toStr, PV.toBool, okRes, resPV, Ty.eq, Nat.beq_refl, decide_true, Bool.not_true, Bool.not_false, cond_true, cond_false, h1, h2]
  | true =>
    rcases valid_cases hv with ⟨hk, hI, hF, hIF⟩ | ⟨hk, i, f, rfl, rfl, ⟨i1, i2, f2, s⟩⟩
    · have hT := pow_bd (e := (I + F).toNat) (n := 30) (by omega)
      have hP := pow_bd (e := F.toNat) (n := 30) (by omega)
      rw [hk]
      refine Evt.ev ((valid21 kind round over I F).evt.and (((two49 (k := I + F) (by omega) (by omega)).evt.and (two49 (k := F) (by omega) (by omega)).evt).and (make46g (n := ((2 ^ (I + F).toNat : Nat) : Int) - 1) (d := ((2 ^ F.toNat : Nat) : Int)) (by omega) (by omega) (by omega) (by omega)).evt)) rfl fun k ⟨h1, ⟨h2, h3⟩, h4⟩ => ?_
      rw [hv] at h1
      unfold sFix at hk
      simp only [fv, qv] at h1 h4 ⊢
      rw [R23]
      simp only [PV.cell, PV.cells, List.getD_cons_succ, List.getD_cons_zero, PV.toInt, PV.toStr, PV.toBool, okRes, resPV, Ty.eq, Nat.beq_refl, decide_true, Bool.not_true, Bool.not_false, cond_true, cond_false, h1, J23_3_eq, hk]
      rw [wrap_id (n := I + F) (by omega) (by omega)]
      simp only [PV.cell, PV.cells, List.getD_cons_succ, List.getD_cons_zero, PV.toInt, PV.toStr, PV.toBool, okRes, resPV, Ty.eq, Nat.beq_refl, decide_true, Bool.not_true, Bool.not_false, cond_true, cond_false, h2, h3]
      rw [wrap_id (n := ((2 ^ (I + F).toNat : Nat) : Int) - 1) (by omega) (by omega)]
      simp only [PV.cell, PV.cells, List.getD_cons_succ, List.getD_cons_zero, PV.toInt, PV.toStr, PV.toBool, okRes, resPV, Ty.eq, Nat.beq_refl, decide_true, Bool.not_true, Bool.not_false, cond_true, cond_false, h4]
    · have hi := pow_bd (e := i) (n := 24) (by omega)
      have h50 := scaled50 (m := ((2 ^ i - 1 : Nat) : Int)) (x := (f : Int)) (by omega) (by omega) (by omega) (by omega)
      rw [timesQ_grid (f := f) (by omega), show ((f : Int) + f).toNat = 2 * f by omega, ← Int.natCast_mul] at h50
      rw [hk]
      have h49 := two49 (k := (i : Int)) (by omega) (by omega)
      rw [Int.toNat_natCast] at h49
      refine Evt.ev ((valid21 kind round over i f).evt.and (h49.evt.and h50.evt)) rfl fun k ⟨h1, h2, h3⟩ => ?_
      rw [hv] at h1
      unfold sFix at hk
      simp only [fv, qv, Int.toNat_natCast, cond_true, cond_false] at h1 h3 ⊢
      rw [R23]
      simp only [PV.cell, PV.cells, List.getD_cons_succ, List.getD_cons_zero, PV.toInt, PV.toStr, PV.toBool, okRes, resPV, Ty.eq, Nat.beq_refl, decide_true, Bool.not_true, Bool.not_false, cond_true, cond_false, h1, J23_3_eq, hk, J23_5_eq, h2]
      rw [wrap_id (n := ((2 ^ i : Nat) : Int) - 1) (by omega) (by omega), show ((2 ^ i : Nat) : Int) - 1 = ((2 ^ i - 1 : Nat) : Int) by omega]
      simp only [PV.cell, PV.cells, List.getD_cons_succ, List.getD_cons_zero, PV.toInt, PV.toStr, PV.toBool, okRes, resPV, Ty.eq, Nat.beq_refl, decide_true, Bool.not_true, Bool.not_false, cond_true, cond_false, h3]

theorem step25M : Ev 25 [.pv (.st 23) (fv kind I F round over)] [.pv (.st 25) (qv (stepM kind round over I F))] := by
  unfold stepM
  cases hv : validB kind round over I F with
  | false =>
    refine Evt.ev ((valid21 kind round over I F).evt.and none48.evt) rfl fun k ⟨h1, h2⟩ => ?_
    rw [hv] at h1
    simp only [fv, qv] at h1 h2 ⊢
    rw [R25]
    simp only [PV.cell, PV.cells, List.getD_cons_succ, List.getD_cons_zero, PV.toInt, PV.toStr, PV.toBool, okRes, resPV, Ty.eq, Nat.beq_refl, decide_true, Bool.not_true, Bool.not_false, cond_true, cond_false, h1, h2]
  | true =>
    have hb : 0 ≤ F ∧ F ≤ 30 := by
      rcases valid_cases hv with ⟨hk, hI, hF, hIF⟩ | ⟨hk, i, f, rfl, rfl, ⟨i1, i2, f2, s⟩⟩ <;> omega
    have hP := pow_bd (e := F.toNat) (n := 30) (by omega)
    refine Evt.ev ((valid21 kind round over I F).evt.and ((two49 (k := F) (by omega) (by omega)).evt.and (make46g (n := 1) (d := ((2 ^ F.toNat : Nat) : Int)) (by omega) (by omega) (by omega) (by omega)).evt)) rfl fun k ⟨h1, h2, h3⟩ => ?_
    rw [hv] at h1
    simp only [fv, qv] at h1 h3 ⊢
    rw [R25]
    simp only [PV.cell, PV.cells, List.getD_cons_succ, List.getD_cons_zero, PV.toInt, PV.toStr, PV.toBool, okRes, resPV, Ty.eq, Nat.beq_refl, decide_true, Bool.not_true, Bool.not_false, cond_true, cond_false, h1, J25_3_eq, h2, h3]

theorem mk_one {P : Nat} (h0 : 0 < P) (h : P ≤ 1073741824) : mk 1 (P : Int) = (1, (P : Int)) := by
  unfold mk
  have : Nat.gcd ((P : Int)).natAbs (1 : Int).natAbs = 1 := by simp
  simp only [this]
  rw [if_neg (by simp; omega)]
  simp

theorem bound32 : Ev 32 [.pv (.st 23) (fv kind I F round over)] [.pv (.st 25) (qv (boundp kind round over I F).1), .pv (.int .i64) (.int .i64 (boundp kind round over I F).2)] := by
  unfold boundp
  cases hv : validB kind round over I F with
  | false =>
    refine Evt.ev ((valid21 kind round over I F).evt.and none48.evt) rfl fun k ⟨h1, h2⟩ => ?_
    rw [hv] at h1
    simp only [fv, qv] at h1 h2 ⊢
    rw [R32]
    simp only [PV.cell, PV.cells, List.getD_cons_succ, List.getD_cons_zero, PV.toInt, PV.toStr, PV.toBool, okRes, resPV, Ty.eq, Nat.beq_refl, decide_true, Bool.not_true, Bool.not_false, cond_true, cond_false, h1, J32_2_eq, Bool.false_and, h2]
  | true =>
    cases hk : sFix kind with
    | false =>
      refine Evt.ev ((valid21 kind round over I F).evt.and none48.evt) rfl fun k ⟨h1, h2⟩ => ?_
      rw [hv] at h1
      unfold sFix at hk
      simp only [fv, qv] at h1 h2 ⊢
      rw [R32]
      simp only [PV.cell, PV.cells, List.getD_cons_succ, List.getD_cons_zero, PV.toInt, PV.toStr, PV.toBool, okRes, resPV, Ty.eq, Nat.beq_refl, decide_true, Bool.not_true, Bool.not_false, cond_true, cond_false, h1, J32_2_eq, Bool.true_and, hk, h2]
    | true =>
      have hb : 0 ≤ F ∧ F ≤ 30 := by
        rcases valid_cases hv with ⟨hk, hI, hF, hIF⟩ | ⟨h, _⟩
        · omega
        · rw [h] at hk; cases hk
      have hP := pow_bd (e := F.toNat) (n := 30) (by omega)
      have h1P := mk_one hP.1 hP.2
      have hip : isp (1, ((2 ^ F.toNat : Nat) : Int)) = true := by
        have := mk_isp (n := 1) (d := ((2 ^ F.toNat : Nat) : Int)) (by omega) (by omega) (by decide)
        rwa [h1P] at this
      have hi2 : isp (2, 1) = true := by decide
      have hw := whole17 (t := 2) (by omega) (by omega)
      rw [show cut 2 1 = (2, 1) by decide] at hw
      have hst : stepM kind round over I F = (1, ((2 ^ F.toNat : Nat) : Int)) := by unfold stepM; rw [hv]; exact h1P
      have h25 := step25M (kind := kind) (round := round) (over := over) (I := I) (F := F)
      rw [hst] at h25
      have h54 : Ev 54 [.pv (.st 25) (qv (1, ((2 ^ F.toNat : Nat) : Int))), .pv (.st 25) (qv (2, 1))] [.pv (.st 25) (qv (mk 1 ((2 * 2 ^ F.toNat : Nat) : Int)))] := by
        refine Evt.ev ((bothp (1, ((2 ^ F.toNat : Nat) : Int)) (2, 1)).evt.and (make46g (n := 1) (d := ((2 * 2 ^ F.toNat : Nat) : Int)) (by omega) (by omega) (by omega) (by omega)).evt) rfl fun k ⟨h1, h2⟩ => ?_
        rw [hip, hi2] at h1
        simp only [qv] at h1 h2 ⊢
        rw [R54]
        simp only [PV.cell, PV.cells, List.getD_cons_succ, List.getD_cons_zero, PV.toInt, PV.toStr, PV.toBool, okRes, resPV, Ty.eq, Nat.beq_refl, decide_true, Bool.not_true, Bool.not_false, cond_true, cond_false, h1, Bool.and_self, J54_3_eq]
        rw [wrap_id (n := ((2 ^ F.toNat : Nat) : Int) * 2) (by omega) (by omega), show ((2 ^ F.toNat : Nat) : Int) * 2 = ((2 * 2 ^ F.toNat : Nat) : Int) by omega, show IntKind.i64.wrap (1 * 1) = 1 by decide]
        simp only [PV.cell, PV.cells, List.getD_cons_succ, List.getD_cons_zero, PV.toInt, PV.toStr, PV.toBool, okRes, resPV, Ty.eq, Nat.beq_refl, decide_true, Bool.not_true, Bool.not_false, cond_true, cond_false, h2]
      refine Evt.ev ((valid21 kind round over I F).evt.and (h25.evt.and (hw.evt.and h54.evt))) rfl fun k ⟨h1, h2, h3, h4⟩ => ?_
      rw [hv] at h1
      unfold sFix at hk
      unfold sNear
      simp only [fv, qv] at h1 h2 h3 h4 ⊢
      rw [R32]
      simp only [PV.cell, PV.cells, List.getD_cons_succ, List.getD_cons_zero, PV.toInt, PV.toStr, PV.toBool, okRes, resPV, Ty.eq, Nat.beq_refl, decide_true, Bool.not_true, Bool.not_false, cond_true, cond_false, h1, J32_3_eq, J32_5_eq, Bool.true_and, hk, h2, h3, h4]
      cases (round.data.toList == (ByteArray.mk #[110, 101, 97, 114]).data.toList) with
      | true => rfl
      | false => simp only [cond_false, h1P]

theorem bcells (x y : PV) : PV.agg (buildCells (PV.agg [PV.int .i64 0, PV.int .i64 0]).cells [(0, bif isAggTy (Ty.int IntKind.i64) then cellsFrom x 0 1 else [x]), (1, bif isAggTy (Ty.int IntKind.i64) then cellsFrom y 0 1 else [y])]) = PV.agg [x, y] := rfl

theorem add29 (a b : Int × Int) : Ev 29 [.pv (.st 23) (fv kind I F round over), .pv (.st 25) (qv a), .pv (.st 25) (qv b)] [.pv (.st 25) (qv (addM kind round over I F a b))] := by
  unfold addM
  cases hv : validB kind round over I F with
  | false =>
    refine Evt.ev ((valid21 kind round over I F).evt.and none48.evt) rfl fun k ⟨h1, h4⟩ => ?_
    rw [hv] at h1
    simp only [fv, qv] at h1 h4 ⊢
    rw [R29]
    simp only [PV.cell, PV.cells, List.getD_cons_succ, List.getD_cons_zero, PV.toInt, PV.toStr, PV.toBool, okRes, resPV, Ty.eq, Nat.beq_refl, decide_true, Bool.not_true, Bool.not_false, cond_true, cond_false, h1, J29_2_eq, Bool.false_and, h4]
  | true =>
    cases ha : isp a with
    | false =>
      refine Evt.ev ((valid21 kind round over I F).evt.and ((isp7 a).evt.and none48.evt)) rfl fun k ⟨h1, h2, h4⟩ => ?_
      rw [hv] at h1
      rw [ha] at h2
      simp only [fv, qv] at h1 h2 h4 ⊢
      rw [R29]
      simp only [PV.cell, PV.cells, List.getD_cons_succ, List.getD_cons_zero, PV.toInt, PV.toStr, PV.toBool, okRes, resPV, Ty.eq, Nat.beq_refl, decide_true, Bool.not_true, Bool.not_false, cond_true, cond_false, h1, h2, J29_2_eq, Bool.false_and, Bool.and_false, h4]
    | true =>
      cases hb : isp b with
      | false =>
        refine Evt.ev ((valid21 kind round over I F).evt.and (((isp7 a).evt.and (isp7 b).evt).and none48.evt)) rfl fun k ⟨h1, ⟨h2, h3⟩, h4⟩ => ?_
        rw [hv] at h1
        rw [ha] at h2
        rw [hb] at h3
        simp only [fv, qv] at h1 h2 h3 h4 ⊢
        rw [R29]
        simp only [PV.cell, PV.cells, List.getD_cons_succ, List.getD_cons_zero, PV.toInt, PV.toStr, PV.toBool, okRes, resPV, Ty.eq, Nat.beq_refl, decide_true, Bool.not_true, Bool.not_false, cond_true, cond_false, h1, h2, h3, J29_2_eq, Bool.false_and, Bool.and_false, h4]
      | true =>
        obtain ⟨p1, p2, p3, p4, _⟩ := isq_facts ha
        obtain ⟨q1, q2, q3, q4, _⟩ := isq_facts hb
        have b1 := mul_bd p3 p4 (show -1073741824 ≤ b.2 by omega) q2 (by omega) (by omega)
        have b2 := mul_bd q3 q4 (show -1073741824 ≤ a.2 by omega) p2 (by omega) (by omega)
        have b3 := mul_bd (show -1073741824 ≤ a.2 by omega) p2 (show -1073741824 ≤ b.2 by omega) q2 (by omega) (by omega)
        have b4 : 1 ≤ a.2 * b.2 := Int.mul_pos (show 0 < a.2 by omega) (show 0 < b.2 by omega)
        have w1 := wrap_id (n := a.1 * b.2) (by omega) (by omega)
        have w2 := wrap_id (n := b.1 * a.2) (by omega) (by omega)
        have w3 := wrap_id (n := a.1 * b.2 + b.1 * a.2) (by omega) (by omega)
        have w4 := wrap_id (n := a.2 * b.2) (by omega) (by omega)
        refine Evt.ev (((valid21 kind round over I F).evt.and ((isp7 a).evt.and (isp7 b).evt)).and (fit51 (N := a.1 * b.2 + b.1 * a.2) (D := a.2 * b.2) hv (by omega) (by omega) (by omega) (by omega)).evt) rfl fun k ⟨⟨h1, h2, h3⟩, h4⟩ => ?_
        rw [hv] at h1
        rw [ha] at h2
        rw [hb] at h3
        simp only [fv, qv] at h1 h2 h3 h4 ⊢
        rw [R29, J29_3_eq, bcells]
        simp only [PV.cell, PV.cells, List.getD_cons_succ, List.getD_cons_zero, PV.toInt, PV.toStr, PV.toBool, okRes, resPV, Ty.eq, Nat.beq_refl, decide_true, Bool.not_true, Bool.not_false, cond_true, cond_false, h1, h2, h3, w1, w2, w3, w4, h4, Bool.and_self]

theorem mul31 (a b : Int × Int) : Ev 31 [.pv (.st 23) (fv kind I F round over), .pv (.st 25) (qv a), .pv (.st 25) (qv b)] [.pv (.st 25) (qv (mulM kind round over I F a b))] := by
  unfold mulM
  cases hv : validB kind round over I F with
  | false =>
    refine Evt.ev ((valid21 kind round over I F).evt.and none48.evt) rfl fun k ⟨h1, h4⟩ => ?_
    rw [hv] at h1
    simp only [fv, qv] at h1 h4 ⊢
    rw [R31]
    simp only [PV.cell, PV.cells, List.getD_cons_succ, List.getD_cons_zero, PV.toInt, PV.toStr, PV.toBool, okRes, resPV, Ty.eq, Nat.beq_refl, decide_true, Bool.not_true, Bool.not_false, cond_true, cond_false, h1, J31_2_eq, Bool.false_and, h4]
  | true =>
    cases ha : isp a with
    | false =>
      refine Evt.ev ((valid21 kind round over I F).evt.and ((isp7 a).evt.and none48.evt)) rfl fun k ⟨h1, h2, h4⟩ => ?_
      rw [hv] at h1
      rw [ha] at h2
      simp only [fv, qv] at h1 h2 h4 ⊢
      rw [R31]
      simp only [PV.cell, PV.cells, List.getD_cons_succ, List.getD_cons_zero, PV.toInt, PV.toStr, PV.toBool, okRes, resPV, Ty.eq, Nat.beq_refl, decide_true, Bool.not_true, Bool.not_false, cond_true, cond_false, h1, h2, J31_2_eq, Bool.false_and, Bool.and_false, h4]
    | true =>
      cases hb : isp b with
      | false =>
        refine Evt.ev ((valid21 kind round over I F).evt.and (((isp7 a).evt.and (isp7 b).evt).and none48.evt)) rfl fun k ⟨h1, ⟨h2, h3⟩, h4⟩ => ?_
        rw [hv] at h1
        rw [ha] at h2
        rw [hb] at h3
        simp only [fv, qv] at h1 h2 h3 h4 ⊢
        rw [R31]
        simp only [PV.cell, PV.cells, List.getD_cons_succ, List.getD_cons_zero, PV.toInt, PV.toStr, PV.toBool, okRes, resPV, Ty.eq, Nat.beq_refl, decide_true, Bool.not_true, Bool.not_false, cond_true, cond_false, h1, h2, h3, J31_2_eq, Bool.false_and, Bool.and_false, h4]
      | true =>
        obtain ⟨p1, p2, p3, p4, _⟩ := isq_facts ha
        obtain ⟨q1, q2, q3, q4, _⟩ := isq_facts hb
        have b1 := mul_bd p3 p4 q3 q4 (by omega) (by omega)
        have b3 := mul_bd (show -1073741824 ≤ a.2 by omega) p2 (show -1073741824 ≤ b.2 by omega) q2 (by omega) (by omega)
        have b4 : 1 ≤ a.2 * b.2 := Int.mul_pos (show 0 < a.2 by omega) (show 0 < b.2 by omega)
        have w1 := wrap_id (n := a.1 * b.1) (by omega) (by omega)
        have w4 := wrap_id (n := a.2 * b.2) (by omega) (by omega)
        refine Evt.ev (((valid21 kind round over I F).evt.and ((isp7 a).evt.and (isp7 b).evt)).and (fit51 (N := a.1 * b.1) (D := a.2 * b.2) hv (by omega) (by omega) (by omega) (by omega)).evt) rfl fun k ⟨⟨h1, h2, h3⟩, h4⟩ => ?_
        rw [hv] at h1
        rw [ha] at h2
        rw [hb] at h3
        simp only [fv, qv] at h1 h2 h3 h4 ⊢
        rw [R31, J31_3_eq, bcells]
        simp only [PV.cell, PV.cells, List.getD_cons_succ, List.getD_cons_zero, PV.toInt, PV.toStr, PV.toBool, okRes, resPV, Ty.eq, Nat.beq_refl, decide_true, Bool.not_true, Bool.not_false, cond_true, cond_false, h1, h2, h3, w1, w4, h4, Bool.and_self]
end
end Go.V

set_option linter.unusedSimpArgs false
set_option linter.unusedVariables false
set_option maxRecDepth 100000
namespace Go.V
open Go.Proofs

theorem mk_parts {n d : Int} (hd : 1 ≤ d) (h : isp (mk n d) = true) : ∃ g : Nat, 0 < g ∧ (mk n d).2 * (g : Int) = d ∧ (mk n d).1 * (g : Int) = n := by
  have hg : 0 < Nat.gcd d.natAbs n.natAbs := Nat.gcd_pos_of_pos_left _ (by omega)
  have e1 := Nat.div_mul_cancel (Nat.gcd_dvd_left d.natAbs n.natAbs)
  have e2 := Nat.div_mul_cancel (Nat.gcd_dvd_right d.natAbs n.natAbs)
  unfold mk at h ⊢
  simp only at h ⊢
  refine ⟨Nat.gcd d.natAbs n.natAbs, hg, ?_⟩
  generalize n.natAbs / Nat.gcd d.natAbs n.natAbs = A at *
  generalize d.natAbs / Nat.gcd d.natAbs n.natAbs = B at *
  by_cases c : 1073741824 < A ∨ 1073741824 < B
  · rw [if_pos c] at h; exact absurd h (by decide)
  · rw [if_neg c]
    simp only
    generalize Nat.gcd d.natAbs n.natAbs = g at *
    refine ⟨by rw [← Int.natCast_mul, e1]; omega, ?_⟩
    by_cases hs : n < 0
    · rw [if_pos hs, Int.neg_mul, ← Int.natCast_mul, e2]; omega
    · rw [if_neg hs, ← Int.natCast_mul, e2]; omega

section
variable {kind round over : ByteArray} {I F : Int}

theorem fix_range {a : Int × Int} (hv : validB kind round over I F = true) (hk : sFix kind = true) (ha : isp a = true) (h : isp (fitp kind round over I F a) = true) :
    ∃ w, -((2 ^ (I + F).toNat : Nat) : Int) ≤ w ∧ w < ((2 ^ (I + F).toNat : Nat) : Int) ∧ fitp kind round over I F a = mk w ((2 ^ F.toNat : Nat) : Int) := by
  have p0 : 0 < 2 ^ (I + F).toNat := Nat.pow_pos (by decide)
  have e : fitp kind round over I F a = fixR round over I F a.1 a.2 := by
    unfold fitp; rw [hv, ha, hk]; rfl
  rw [e] at h ⊢
  unfold fixR at h ⊢
  have hw := wrapK_range (K := Kof round F a.1 a.2) p0
  generalize Kof round F a.1 a.2 = K at *
  generalize 2 ^ (I + F).toNat = T at *
  by_cases c : -(T : Int) ≤ K ∧ K < (T : Int)
  · rw [if_pos c]; exact ⟨K, c.1, c.2, rfl⟩
  · rw [if_neg c] at h ⊢
    cases hs : sSat over with
    | true => simp only [cond_true]; exact ⟨_, by split <;> omega, by split <;> omega, rfl⟩
    | false =>
      rw [hs] at h
      simp only [cond_false] at h ⊢
      cases hr : sWrap over with
      | true => simp only [cond_true]; exact ⟨_, hw.1, hw.2, rfl⟩
      | false => rw [hr] at h; exact absurd h (by simp [isp, isq_zero])

/-- A value's code. -/
theorem codes (a : Int × Int) : ∃ c e, Ev 20 [.pv (.st 23) (fv kind I F round over), .pv (.st 25) (qv a)] [.pv (.int .i64) (.int .i64 c), .pv (.int .i64) (.int .i64 e)] ∧
    Ev 33 [.pv (.st 23) (fv kind I F round over), .pv (.st 25) (qv a)] [.pv (.int .i64) (.int .i64 c), .pv (.int .i64) (.int .i64 e)] := by
  cases hv : validB kind round over I F with
  | false =>
    refine ⟨0, 2, Evt.ev (valid16b kind round over I F).evt rfl fun k h1 => ?_, Evt.ev (valid21 kind round over I F).evt rfl fun k h1 => ?_⟩
    · rw [hv] at h1
      simp only [fv, qv] at h1 ⊢
      rw [R20]
      simp only [PV.cell, PV.cells, List.getD_cons_succ, List.getD_cons_zero, PV.toInt, PV.toStr, PV.toBool, okRes, resPV, Ty.eq, Nat.beq_refl, decide_true, Bool.not_true, Bool.not_false, cond_true, cond_false, h1, J20_2_eq]
    · rw [hv] at h1
      simp only [fv, qv] at h1 ⊢
      rw [R33]
      simp only [PV.cell, PV.cells, List.getD_cons_succ, List.getD_cons_zero, PV.toInt, PV.toStr, PV.toBool, okRes, resPV, Ty.eq, Nat.beq_refl, decide_true, Bool.not_true, Bool.not_false, cond_true, cond_false, h1, J33_2_eq]
  | true =>
    cases hk : sFix kind with
    | false =>
      unfold sFix at hk
      refine ⟨0, 2, Evt.ev (valid16b kind round over I F).evt rfl fun k h1 => ?_, Evt.ev (valid21 kind round over I F).evt rfl fun k h1 => ?_⟩
      · rw [hv] at h1
        simp only [fv, qv] at h1 ⊢
        rw [R20]
        simp only [PV.cell, PV.cells, List.getD_cons_succ, List.getD_cons_zero, PV.toInt, PV.toStr, PV.toBool, okRes, resPV, Ty.eq, Nat.beq_refl, decide_true, Bool.not_true, Bool.not_false, cond_true, cond_false, h1, J20_2_eq, hk]
      · rw [hv] at h1
        simp only [fv, qv] at h1 ⊢
        rw [R33]
        simp only [PV.cell, PV.cells, List.getD_cons_succ, List.getD_cons_zero, PV.toInt, PV.toStr, PV.toBool, okRes, resPV, Ty.eq, Nat.beq_refl, decide_true, Bool.not_true, Bool.not_false, cond_true, cond_false, h1, J33_2_eq, hk]
    | true =>
      have h8 : Ev 8 [.pv (.st 23) (fv kind I F round over), .pv (.st 25) (qv a)] [.pv .bool (.bool (isM kind round over I F a))] := is8 a
      have h27 := is27 (kind := kind) (round := round) (over := over) (I := I) (F := F) a
      have hk' := hk
      unfold sFix at hk'
      cases hm : isM kind round over I F a with
      | false =>
        refine ⟨0, 5, Evt.ev ((valid16b kind round over I F).evt.and h8.evt) rfl fun k ⟨h1, h2⟩ => ?_, Evt.ev ((valid21 kind round over I F).evt.and h27.evt) rfl fun k ⟨h1, h2⟩ => ?_⟩
        · rw [hv] at h1
          rw [hm] at h2
          simp only [fv, qv] at h1 h2 ⊢
          rw [R20]
          simp only [PV.cell, PV.cells, List.getD_cons_succ, List.getD_cons_zero, PV.toInt, PV.toStr, PV.toBool, okRes, resPV, Ty.eq, Nat.beq_refl, decide_true, Bool.not_true, Bool.not_false, cond_true, cond_false, h1, hk', h2]
        · rw [hv] at h1
          rw [hm] at h2
          simp only [fv, qv] at h1 h2 ⊢
          rw [R33]
          simp only [PV.cell, PV.cells, List.getD_cons_succ, List.getD_cons_zero, PV.toInt, PV.toStr, PV.toBool, okRes, resPV, Ty.eq, Nat.beq_refl, decide_true, Bool.not_true, Bool.not_false, cond_true, cond_false, h1, hk', J33_3_eq, h2]
      | true =>
        -- it is k steps
        have ha : isp a = true := by
          unfold isM at hm; rw [hv] at hm; exact (Bool.and_eq_true_iff.1 (Bool.and_eq_true_iff.1 hm).2).1
        have hfa : fitp kind round over I F a = a := by
          unfold isM at hm
          have h2 := (Bool.and_eq_true_iff.1 (Bool.and_eq_true_iff.1 hm).2).2
          obtain ⟨h3, h4⟩ := Bool.and_eq_true_iff.1 h2
          exact Prod.ext (of_decide_eq_true h3) (of_decide_eq_true h4)
        obtain ⟨w, w1, w2, hw⟩ := fix_range hv hk ha (by rw [hfa]; exact ha)
        rw [hfa] at hw
        rcases valid_cases hv with ⟨_, hI, hF, hIF⟩ | ⟨h, _⟩
        · have hv16 := valid16b kind round over I F
          rw [hv] at hv16
          have hT := pow_bd (e := (I + F).toNat) (n := 30) (by omega)
          have hP := pow_bd (e := F.toNat) (n := 30) (by omega)
          have h20 := code20 (round := round) (over := over) hk hv16 hI hF hIF w1 w2
          rw [← hw] at h20
          refine ⟨_, _, h20, ?_⟩
          obtain ⟨g, g0, gd, gn⟩ := mk_parts (n := w) (d := ((2 ^ F.toNat : Nat) : Int)) (by omega) (by rw [← hw]; exact ha)
          rw [← hw] at gd gn
          obtain ⟨a1, a2, a3, a4, _⟩ := isq_facts ha
          have hT2 : 2 ^ (I + F + 1).toNat = 2 * 2 ^ (I + F).toNat := by rw [show (I + F + 1).toNat = (I + F).toNat + 1 by omega, Nat.pow_succ, Nat.mul_comm]
          have h49a := two49 (k := F) (by omega) (by omega)
          have h49b := two49 (k := I + F + 1) (by omega) (by omega)
          rw [hT2] at h49b
          have e1 : (((2 ^ F.toNat : Nat) : Int)).tdiv a.2 = g := by rw [← gd]; exact Int.mul_tdiv_cancel_left _ (by omega)
          have g1 : (g : Int) ≤ 1073741824 := by
            have : (1 : Int) * g ≤ a.2 * g := Int.mul_le_mul_of_nonneg_right a1 (by omega)
            omega
          refine Evt.ev (((valid21 kind round over I F).evt.and h27.evt).and (h49a.evt.and h49b.evt)) rfl fun k ⟨⟨h1, h2⟩, h3, h4⟩ => ?_
          rw [hv] at h1
          rw [hm] at h2
          simp only [fv, qv] at h1 h2 ⊢
          rw [R33]
          simp only [PV.cell, PV.cells, List.getD_cons_succ, List.getD_cons_zero, PV.toInt, PV.toStr, PV.toBool, okRes, resPV, Ty.eq, Nat.beq_refl, decide_true, Bool.not_true, Bool.not_false, cond_true, cond_false, h1, hk', J33_3_eq, h2, J33_5_eq, h3, e1]
          rw [eqI_f (show a.2 ≠ 0 by omega), wrap_id (n := (g : Int)) (by omega) (by omega), gn, wrap_id (n := w) (by omega) (by omega)]
          simp only [cond_false]
          rw [wrap_id (n := I + F) (by omega) (by omega), wrap_id (n := I + F + 1) (by omega) (by omega)]
          by_cases c : w < 0
          · rw [ltI_t c, if_pos c]
            simp only [PV.cell, PV.cells, List.getD_cons_succ, List.getD_cons_zero, PV.toInt, PV.toStr, PV.toBool, okRes, resPV, Ty.eq, Nat.beq_refl, decide_true, Bool.not_true, Bool.not_false, cond_true, cond_false, h4, J33_8_eq]
            rw [wrap_id (n := w + _) (by omega) (by omega)]
          · rw [ltI_f (by omega), if_neg c]
            simp only [cond_false, J33_8s1_eq]
        · rw [h] at hk; cases hk

/-- A code's value. -/
theorem values (code : Int) : ∃ v e, Ev 19 [.pv (.st 23) (fv kind I F round over), .pv (.int .i64) (.int .i64 code)] [.pv (.st 25) (qv v), .pv (.int .i64) (.int .i64 e)] ∧
    Ev 34 [.pv (.st 23) (fv kind I F round over), .pv (.int .i64) (.int .i64 code)] [.pv (.st 25) (qv v), .pv (.int .i64) (.int .i64 e)] := by
  cases hv : validB kind round over I F with
  | false =>
    refine ⟨(0, 0), 2, Evt.ev (valid16b kind round over I F).evt rfl fun k h1 => ?_, Evt.ev ((valid21 kind round over I F).evt.and none48.evt) rfl fun k ⟨h1, h2⟩ => ?_⟩
    · rw [hv] at h1
      simp only [fv, qv] at h1 ⊢
      rw [R19]
      simp only [PV.cell, PV.cells, List.getD_cons_succ, List.getD_cons_zero, PV.toInt, PV.toStr, PV.toBool, okRes, resPV, Ty.eq, Nat.beq_refl, decide_true, Bool.not_true, Bool.not_false, cond_true, cond_false, h1, J19_2_eq]
    · rw [hv] at h1
      simp only [fv, qv] at h1 h2 ⊢
      rw [R34]
      simp only [PV.cell, PV.cells, List.getD_cons_succ, List.getD_cons_zero, PV.toInt, PV.toStr, PV.toBool, okRes, resPV, Ty.eq, Nat.beq_refl, decide_true, Bool.not_true, Bool.not_false, cond_true, cond_false, h1, J34_2_eq, h2]
  | true =>
    cases hk : sFix kind with
    | false =>
      unfold sFix at hk
      refine ⟨(0, 0), 2, Evt.ev (valid16b kind round over I F).evt rfl fun k h1 => ?_, Evt.ev ((valid21 kind round over I F).evt.and none48.evt) rfl fun k ⟨h1, h2⟩ => ?_⟩
      · rw [hv] at h1
        simp only [fv, qv] at h1 ⊢
        rw [R19]
        simp only [PV.cell, PV.cells, List.getD_cons_succ, List.getD_cons_zero, PV.toInt, PV.toStr, PV.toBool, okRes, resPV, Ty.eq, Nat.beq_refl, decide_true, Bool.not_true, Bool.not_false, cond_true, cond_false, h1, J19_2_eq, hk]
      · rw [hv] at h1
        simp only [fv, qv] at h1 h2 ⊢
        rw [R34]
        simp only [PV.cell, PV.cells, List.getD_cons_succ, List.getD_cons_zero, PV.toInt, PV.toStr, PV.toBool, okRes, resPV, Ty.eq, Nat.beq_refl, decide_true, Bool.not_true, Bool.not_false, cond_true, cond_false, h1, J34_2_eq, hk, h2]
    | true =>
      rcases valid_cases hv with ⟨_, hI, hF, hIF⟩ | ⟨h, _⟩
      · have hk' := hk
        unfold sFix at hk'
        have hT := pow_bd (e := (I + F).toNat) (n := 30) (by omega)
        have hP := pow_bd (e := F.toNat) (n := 30) (by omega)
        have hT2 : 2 ^ (I + F + 1).toNat = 2 * 2 ^ (I + F).toNat := by rw [show (I + F + 1).toNat = (I + F).toNat + 1 by omega, Nat.pow_succ, Nat.mul_comm]
        have h49a := two49 (k := I + F) (by omega) (by omega)
        have h49b := two49 (k := I + F + 1) (by omega) (by omega)
        have h49c := two49 (k := F) (by omega) (by omega)
        rw [hT2] at h49b
        have wi : IntKind.i64.wrap (I + F) = I + F := wrap_id (by omega) (by omega)
        have wi1 : IntKind.i64.wrap (I + F + 1) = I + F + 1 := wrap_id (by omega) (by omega)
        have ui : ltI (IntKind.u64.wrap (I + F)) 0 = false := by rw [uwrap_id (by omega) (by omega), ltI_f (by omega)]
        have s1 := shl1i (F := I + F) (by omega) (by omega)
        have s2 := shl2i (E := I + F) (by omega) (by omega)
        by_cases c0 : code < 0
        · refine ⟨(0, 0), 2, Evt.ev (valid16b kind round over I F).evt rfl fun k h1 => ?_, Evt.ev ((valid21 kind round over I F).evt.and none48.evt) rfl fun k ⟨h1, h2⟩ => ?_⟩
          · rw [hv] at h1
            simp only [fv, qv] at h1 ⊢
            rw [R19]
            simp only [PV.cell, PV.cells, List.getD_cons_succ, List.getD_cons_zero, PV.toInt, PV.toStr, PV.toBool, okRes, resPV, Ty.eq, Nat.beq_refl, decide_true, Bool.not_true, Bool.not_false, cond_true, cond_false, h1, J19_2_eq, hk', ltI_t c0]
          · rw [hv] at h1
            simp only [fv, qv] at h1 h2 ⊢
            rw [R34]
            simp only [PV.cell, PV.cells, List.getD_cons_succ, List.getD_cons_zero, PV.toInt, PV.toStr, PV.toBool, okRes, resPV, Ty.eq, Nat.beq_refl, decide_true, Bool.not_true, Bool.not_false, cond_true, cond_false, h1, J34_2_eq, hk', h2, ltI_t c0]
        · have l0 := ltI_f (show 0 ≤ code by omega)
          by_cases c1 : ((2 * 2 ^ (I + F).toNat : Nat) : Int) ≤ code
          · refine ⟨(0, 0), 2, Evt.ev (valid16b kind round over I F).evt rfl fun k h1 => ?_, Evt.ev ((valid21 kind round over I F).evt.and (none48.evt.and h49b.evt)) rfl fun k ⟨h1, h2, h3⟩ => ?_⟩
            · rw [hv] at h1
              simp only [fv, qv] at h1 ⊢
              rw [R19]
              simp only [PV.cell, PV.cells, List.getD_cons_succ, List.getD_cons_zero, PV.toInt, PV.toStr, PV.toBool, okRes, resPV, Ty.eq, Nat.beq_refl, decide_true, Bool.not_true, Bool.not_false, cond_true, cond_false, h1, J19_2_eq, hk', l0, wi, ui, s2, leI_t c1]
            · rw [hv] at h1
              simp only [fv, qv] at h1 h2 ⊢
              rw [R34]
              simp only [PV.cell, PV.cells, List.getD_cons_succ, List.getD_cons_zero, PV.toInt, PV.toStr, PV.toBool, okRes, resPV, Ty.eq, Nat.beq_refl, decide_true, Bool.not_true, Bool.not_false, cond_true, cond_false, h1, J34_2_eq, hk', h2, l0, wi, wi1, h3, leI_t c1]
          · have l1 := leI_f (show code < ((2 * 2 ^ (I + F).toNat : Nat) : Int) by omega)
            by_cases c2 : ((2 ^ (I + F).toNat : Nat) : Int) ≤ code
            · have l2 := leI_t c2
              have wk : IntKind.i64.wrap (code - ((2 * 2 ^ (I + F).toNat : Nat) : Int)) = code - ((2 * 2 ^ (I + F).toNat : Nat) : Int) := wrap_id (by omega) (by omega)
              have hval := value40 (kind := kind) (round := round) (over := over) (I := I) (k := code - ((2 * 2 ^ (I + F).toNat : Nat) : Int)) hF (by omega) (by omega) (by omega)
              have h46 := make46g (n := code - ((2 * 2 ^ (I + F).toNat : Nat) : Int)) (d := ((2 ^ F.toNat : Nat) : Int)) (by omega) (by omega) (by omega) (by omega)
              refine ⟨mk (code - ((2 * 2 ^ (I + F).toNat : Nat) : Int)) ((2 ^ F.toNat : Nat) : Int), 0, Evt.ev ((valid16b kind round over I F).evt.and hval.evt) rfl fun k ⟨h1, h2⟩ => ?_, Evt.ev (((valid21 kind round over I F).evt.and h46.evt).and (h49a.evt.and (h49b.evt.and h49c.evt))) rfl fun k ⟨⟨h1, h2⟩, h3, h4, h5⟩ => ?_⟩
              · rw [hv] at h1
                simp only [fv, qv] at h1 h2 ⊢
                rw [R19]
                simp only [PV.cell, PV.cells, List.getD_cons_succ, List.getD_cons_zero, PV.toInt, PV.toStr, PV.toBool, okRes, resPV, Ty.eq, Nat.beq_refl, decide_true, Bool.not_true, Bool.not_false, cond_true, cond_false, h1, J19_3_eq, hk', l0, wi, ui, s1, s2, l1, l2, J19_6_eq, wk, h2]
              · rw [hv] at h1
                simp only [fv, qv] at h1 h2 ⊢
                rw [R34]
                simp only [PV.cell, PV.cells, List.getD_cons_succ, List.getD_cons_zero, PV.toInt, PV.toStr, PV.toBool, okRes, resPV, Ty.eq, Nat.beq_refl, decide_true, Bool.not_true, Bool.not_false, cond_true, cond_false, h1, J34_3_eq, hk', l0, wi, wi1, h3, h4, l1, l2, J34_6_eq, wk, h5, h2]
            · have l2 := leI_f (show code < ((2 ^ (I + F).toNat : Nat) : Int) by omega)
              have hval := value40 (kind := kind) (round := round) (over := over) (I := I) (k := code) hF (by omega) (by omega) (by omega)
              have h46 := make46g (n := code) (d := ((2 ^ F.toNat : Nat) : Int)) (by omega) (by omega) (by omega) (by omega)
              refine ⟨mk code ((2 ^ F.toNat : Nat) : Int), 0, Evt.ev ((valid16b kind round over I F).evt.and hval.evt) rfl fun k ⟨h1, h2⟩ => ?_, Evt.ev (((valid21 kind round over I F).evt.and h46.evt).and (h49a.evt.and (h49b.evt.and h49c.evt))) rfl fun k ⟨⟨h1, h2⟩, h3, h4, h5⟩ => ?_⟩
              · rw [hv] at h1
                simp only [fv, qv] at h1 h2 ⊢
                rw [R19]
                simp only [PV.cell, PV.cells, List.getD_cons_succ, List.getD_cons_zero, PV.toInt, PV.toStr, PV.toBool, okRes, resPV, Ty.eq, Nat.beq_refl, decide_true, Bool.not_true, Bool.not_false, cond_true, cond_false, h1, J19_3_eq, hk', l0, wi, ui, s1, s2, l1, l2, J19_6s1_eq, h2]
              · rw [hv] at h1
                simp only [fv, qv] at h1 h2 ⊢
                rw [R34]
                simp only [PV.cell, PV.cells, List.getD_cons_succ, List.getD_cons_zero, PV.toInt, PV.toStr, PV.toBool, okRes, resPV, Ty.eq, Nat.beq_refl, decide_true, Bool.not_true, Bool.not_false, cond_true, cond_false, h1, J34_3_eq, hk', l0, wi, wi1, h3, h4, l1, l2, J34_6s1_eq, h5, h2]
      · rw [h] at hk; cases hk
end
end Go.V

set_option linter.unusedSimpArgs false
set_option linter.unusedVariables false
set_option maxRecDepth 100000
namespace Go.V
open Go.Proofs

section
variable {kind round over : ByteArray} {I F : Int}

/-- What FormatSays asks, as a value. -/
def caseV (kind : ByteArray) (I F : Int) (round over : ByteArray) (a b : Int × Int) (code : Int) : PV :=
  .agg [.str kind, .int .i64 I, .int .i64 F, .str round, .str over, .int .i64 a.1, .int .i64 a.2, .int .i64 b.1, .int .i64 b.2, .int .i64 code]

theorem bound10M : Ev 10 [.pv (.st 23) (fv kind I F round over)] [.pv (.st 25) (qv (boundp kind round over I F).1), .pv (.int .i64) (.int .i64 (boundp kind round over I F).2)] := bound10

theorem j5_17 (code : Int) : Evt fun k => ∀ v0 v1 v2 v3 v4 v5 v6 v7 v8 v9 v16 v17 v18 v19 v20, J5_17 gate1 (EG k) k v0 v1 v2 v3 v4 v5 v6 v7 v8 v9 (.str kind) (.int .i64 I) (.int .i64 F) (.str round) (.str over) (.int .i64 code) v16 v17 v18 v19 v20 = some ([.pv .bool (.bool true)], []) := by
  obtain ⟨v, e, h1, h2⟩ := values (kind := kind) (round := round) (over := over) (I := I) (F := F) code
  obtain ⟨K, hK⟩ := (h1.evt.and h2.evt).and awake_ev.evt
  refine ⟨K, fun k hk v0 v1 v2 v3 v4 v5 v6 v7 v8 v9 v16 v17 v18 v19 v20 => ?_⟩
  obtain ⟨⟨h1, h2⟩, h3⟩ := hK k hk
  simp only [fv, qv] at h1 h2
  rw [J5_17_eq]
  simp only [PV.cell, PV.cells, List.getD_cons_succ, List.getD_cons_zero, PV.toInt, PV.toStr, PV.toBool, okRes, resPV, Ty.eq, Nat.beq_refl, decide_true, Bool.not_true, Bool.not_false, cond_true, cond_false, h1, h2, tys2530, okMany, okTup, Bool.and_true, Bool.true_and, resAt, nth, aoPV, Nat.beq, eqI_rfl, h3, Bool.and_self]

theorem j5_13 (a : Int × Int) (code : Int) : Evt fun k => ∀ v0 v1 v2 v3 v4 v5 v6 v7 v8 v9 v18 v19 v20 v21 v22, J5_13 gate1 (EG k) k v0 v1 v2 v3 v4 v5 v6 v7 v8 v9 (.str kind) (.int .i64 I) (.int .i64 F) (.str round) (.str over) (.int .i64 a.1) (.int .i64 a.2) (.int .i64 code) v18 v19 v20 v21 v22 = some ([.pv .bool (.bool true)], []) := by
  obtain ⟨v, e, h1, h2⟩ := codes (kind := kind) (round := round) (over := over) (I := I) (F := F) a
  obtain ⟨K, hK⟩ := (h1.evt.and h2.evt).and (j5_17 (kind := kind) (round := round) (over := over) (I := I) (F := F) code)
  refine ⟨K, fun k hk v0 v1 v2 v3 v4 v5 v6 v7 v8 v9 v18 v19 v20 v21 v22 => ?_⟩
  obtain ⟨⟨h1, h2⟩, h3⟩ := hK k hk
  simp only [fv, qv] at h1 h2
  rw [J5_13_eq]
  simp only [PV.cell, PV.cells, List.getD_cons_succ, List.getD_cons_zero, PV.toInt, PV.toStr, PV.toBool, okRes, resPV, Ty.eq, Nat.beq_refl, decide_true, Bool.not_true, Bool.not_false, cond_true, cond_false, h1, h2, tys330, okMany, okTup, Bool.and_true, Bool.true_and, resAt, nth, aoPV, Nat.beq, eqI_rfl, Bool.and_self, h3]

theorem j5_9 (a : Int × Int) (code : Int) : Evt fun k => ∀ v0 v1 v2 v3 v4 v5 v6 v7 v8 v9 v18, J5_9 gate1 (EG k) k v0 v1 v2 v3 v4 v5 v6 v7 v8 v9 (.str kind) (.int .i64 I) (.int .i64 F) (.str round) (.str over) (.int .i64 a.1) (.int .i64 a.2) (.int .i64 code) v18 = some ([.pv .bool (.bool true)], []) := by
  obtain ⟨K, hK⟩ := ((bound10M (kind := kind) (round := round) (over := over) (I := I) (F := F)).evt.and (bound32 (kind := kind) (round := round) (over := over) (I := I) (F := F)).evt).and (j5_13 (kind := kind) (round := round) (over := over) (I := I) (F := F) a code)
  refine ⟨K, fun k hk v0 v1 v2 v3 v4 v5 v6 v7 v8 v9 v18 => ?_⟩
  obtain ⟨⟨h1, h2⟩, h3⟩ := hK k hk
  simp only [fv, qv] at h1 h2
  rw [J5_9_eq]
  simp only [PV.cell, PV.cells, List.getD_cons_succ, List.getD_cons_zero, PV.toInt, PV.toStr, PV.toBool, okRes, resPV, Ty.eq, Nat.beq_refl, decide_true, Bool.not_true, Bool.not_false, cond_true, cond_false, h1, h2, tys2530, okMany, okTup, Bool.and_true, Bool.true_and, resAt, nth, aoPV, Nat.beq, eqI_rfl, Bool.and_self, h3]

theorem j5_7 (a b : Int × Int) (code : Int) : Evt fun k => ∀ v0 v1 v2 v3 v4 v5 v6 v7 v8 v9 v20, J5_7 gate1 (EG k) k v0 v1 v2 v3 v4 v5 v6 v7 v8 v9 (.str kind) (.int .i64 I) (.int .i64 F) (.str round) (.str over) (.int .i64 a.1) (.int .i64 a.2) (.int .i64 b.1) (.int .i64 b.2) (.int .i64 code) v20 = some ([.pv .bool (.bool true)], []) := by
  obtain ⟨K, hK⟩ := ((((fitp6 (kind := kind) (round := round) (over := over) (I := I) (F := F) a).evt.and (fit26 (kind := kind) (round := round) (over := over) (I := I) (F := F) a).evt).and
    ((show Ev 8 [.pv (.st 23) (fv kind I F round over), .pv (.st 25) (qv a)] [.pv .bool (.bool (isM kind round over I F a))] from is8 a).evt.and (is27 (kind := kind) (round := round) (over := over) (I := I) (F := F) a).evt)).and
    (((add28 (kind := kind) (round := round) (over := over) (I := I) (F := F) a b).evt.and (add29 (kind := kind) (round := round) (over := over) (I := I) (F := F) a b).evt).and
    ((mul30 (kind := kind) (round := round) (over := over) (I := I) (F := F) a b).evt.and (mul31 (kind := kind) (round := round) (over := over) (I := I) (F := F) a b).evt))).and (j5_9 (kind := kind) (round := round) (over := over) (I := I) (F := F) a code)
  refine ⟨K, fun k hk v0 v1 v2 v3 v4 v5 v6 v7 v8 v9 v20 => ?_⟩
  obtain ⟨⟨⟨⟨h1, h2⟩, h3, h4⟩, ⟨h5, h6⟩, h7, h8⟩, h9⟩ := hK k hk
  generalize fitp kind round over I F a = x at *
  generalize isM kind round over I F a = m at *
  generalize addM kind round over I F a b = y at *
  generalize mulM kind round over I F a b = z at *
  simp only [fv, qv] at h1 h2 h3 h4 h5 h6 h7 h8
  rw [J5_7_eq]
  simp only [PV.cell, PV.cells, List.getD_cons_succ, List.getD_cons_zero, PV.toInt, PV.toStr, PV.toBool, okRes, resPV, Ty.eq, Nat.beq_refl, decide_true, Bool.not_true, Bool.not_false, cond_true, cond_false, h1, h2, eqI_rfl, Bool.and_self, h3, h4]
  have hm : (!(m == m)) = false := by cases m <;> rfl
  simp only [hm, cond_false, h5, h6, PV.cell, PV.cells, List.getD_cons_succ, List.getD_cons_zero, PV.toInt, PV.toStr, PV.toBool, okRes, resPV, Ty.eq, Nat.beq_refl, decide_true, Bool.not_true, Bool.not_false, cond_true, cond_false, eqI_rfl, Bool.and_self, h7, h8, h9]

theorem says_ev (a b : Int × Int) (code : Int) : Ev 5 [.pv (.st 45) (caseV kind I F round over a b code)] [.pv .bool (.bool true)] := by
  refine Evt.ev ((((valid16b kind round over I F).evt.and (valid21 kind round over I F).evt).and (((least11M (kind := kind) (round := round) (over := over) (I := I) (F := F)).evt.and (least22M (kind := kind) (round := round) (over := over) (I := I) (F := F)).evt).and
    ((greatest12M (kind := kind) (round := round) (over := over) (I := I) (F := F)).evt.and (greatest23M (kind := kind) (round := round) (over := over) (I := I) (F := F)).evt))).and
    (((step24M (kind := kind) (round := round) (over := over) (I := I) (F := F)).evt.and (step25M (kind := kind) (round := round) (over := over) (I := I) (F := F)).evt).and (j5_7 (kind := kind) (round := round) (over := over) (I := I) (F := F) a b code))) rfl
    fun k ⟨⟨⟨h1, h2⟩, ⟨h3, h4⟩, h5, h6⟩, ⟨h7, h8⟩, h9⟩ => ?_
  generalize validB kind round over I F = m at *
  generalize leastM kind round over I F = x at *
  generalize greatestM kind round over I F = y at *
  generalize stepM kind round over I F = z at *
  simp only [fv, qv, caseV] at h1 h2 h3 h4 h5 h6 h7 h8 ⊢
  rw [R5]
  have hm : (!(m == m)) = false := by cases m <;> rfl
  simp only [PV.cell, PV.cells, List.getD_cons_succ, List.getD_cons_zero, PV.toInt, PV.toStr, PV.toBool, okRes, resPV, Ty.eq, Nat.beq_refl, decide_true, Bool.not_true, Bool.not_false, cond_true, cond_false, h1, h2, hm, h3, h4, eqI_rfl, Bool.and_self, h5, h6, h7, h8, h9]
end
end Go.V
