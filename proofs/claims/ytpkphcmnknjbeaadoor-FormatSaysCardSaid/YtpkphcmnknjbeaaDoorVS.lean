/- The reference's shift, its fixed and its floating formats, for any fraction of words: they are what the program's are. Conditions: those that each theorem names. -/
import Derived.Test.YtpkphcmnknjbeaaDoorVR
set_option linter.unusedSimpArgs false
set_option linter.unusedVariables false
set_option maxRecDepth 100000
namespace Go.V
open Go.Proofs

def sUp (s : ByteArray) : Bool := s.data.toList == (ByteArray.mk #[117, 112]).data.toList

/-- X / Y as a whole number, by a kind of rounding. -/
def refR (round : ByteArray) (X Y : Int) : Int :=
  bif sZero round then (if X / Y < 0 ∧ 0 < X % Y then X / Y + 1 else X / Y)
  else bif sUp round then (if 0 < X % Y then X / Y + 1 else X / Y)
  else bif sNear round then (if Y < 2 * (X % Y) ∨ (2 * (X % Y) = Y ∧ X / Y % 2 ≠ 0) then X / Y + 1 else X / Y)
  else X / Y

theorem refR_scale {round : ByteArray} {X Y c : Int} (hc : 0 < c) : refR round (X * c) (Y * c) = refR round X Y := by
  have e1 : X * c / (Y * c) = X / Y := Int.mul_ediv_mul_of_pos_left _ _ hc
  have e2 : X * c % (Y * c) = X % Y * c := by rw [Int.mul_comm X, Int.mul_comm Y, Int.mul_emod_mul_of_pos _ _ hc, Int.mul_comm]
  unfold refR
  rw [e1, e2]
  generalize X / Y = w
  generalize X % Y = r
  have z1 : 0 < r * c ↔ 0 < r := ⟨fun h => Int.pos_of_mul_pos_left h hc, fun h => Int.mul_pos h hc⟩
  have z2 : Y * c < 2 * (r * c) ↔ Y < 2 * r := by
    rw [← Int.mul_assoc]; exact ⟨fun h => Int.lt_of_mul_lt_mul_right h (Int.le_of_lt hc), fun h => Int.mul_lt_mul_of_pos_right h hc⟩
  have z3 : 2 * (r * c) = Y * c ↔ 2 * r = Y := by
    rw [← Int.mul_assoc]; exact ⟨fun h => Int.eq_of_mul_eq_mul_right (by omega) h, fun h => by rw [h]⟩
  simp only [z1, z2, z3]

theorem floor75 {n d : Int} (n1 : -6917529027641081856 ≤ n) (n2 : n ≤ 6917529027641081856) (d1 : 0 < d) :
    Ev 75 [.pv (.int .i64) (.int .i64 n), .pv (.int .i64) (.int .i64 d)] [.pv (.int .i64) (.int .i64 (n / d))] := by
  have hb : -6917529027641081856 ≤ n.tdiv d ∧ n.tdiv d ≤ 6917529027641081856 := by
    have h := Int.natAbs_tdiv_le_natAbs n d
    omega
  have e : n.tmod d < 0 ∧ n / d = n.tdiv d - 1 ∨ 0 ≤ n.tmod d ∧ n / d = n.tdiv d := by
    have h1 := Int.mul_tdiv_add_tmod n d
    have h2 := Int.tmod_lt_of_pos n d1
    have h3 : -d < n.tmod d := by
      rw [Int.tmod_eq_emod]
      have h0 := Int.emod_nonneg n (show d ≠ 0 by omega)
      split
      · omega
      · rename_i hc
        have : n % d ≠ 0 := fun hz => hc (.inr (Int.dvd_of_emod_eq_zero hz))
        omega
    by_cases c : n.tmod d < 0
    · left
      refine ⟨c, ?_⟩
      rw [Int.ediv_eq_iff_of_pos d1]
      rw [Int.mul_comm] at h1
      rw [Int.sub_mul, Int.one_mul]
      generalize n.tdiv d * d = a at *
      generalize n.tmod d = b at *
      omega
    · right
      refine ⟨by omega, ?_⟩
      rw [Int.ediv_eq_iff_of_pos d1]
      rw [Int.mul_comm] at h1
      omega
  refine Ev.of 0 rfl fun k _ => ?_
  rw [R75]
  simp only [PV.toInt, J75_4_eq, J75_4s1_eq]
  rw [eqI_f (show d ≠ 0 by omega), wrap_id (n := n.tdiv d) (by omega) (by omega)]
  simp only [cond_false]
  rcases e with ⟨a, b⟩ | ⟨a, b⟩
  · rw [ltI_t a, b, wrap_id (n := n.tdiv d - 1) (by omega) (by omega)]; rfl
  · rw [ltI_f a, b]; rfl

/-- The rounding of a whole number, what is below it, and a fraction. -/
theorem rounded76 {round : ByteArray} {w low under rest d : Int} (w1 : -6917529027641081856 ≤ w) (w2 : w ≤ 6917529027641081856) (l0 : 0 ≤ low) (l1 : low < under) (hu : (under = 1) ∨ ∃ h, under = 2 * h ∧ 1 ≤ h) (hul : under ≤ 6917529027641081856)
    (r0 : 0 ≤ rest) (r1 : rest < d) (hd : d ≤ 6917529027641081856) :
    Ev 76 [.pv .str (.str round), .pv (.int .i64) (.int .i64 w), .pv (.int .i64) (.int .i64 low), .pv (.int .i64) (.int .i64 under), .pv (.int .i64) (.int .i64 rest), .pv (.int .i64) (.int .i64 d)]
      [.pv (.int .i64) (.int .i64 (refR round (w * (under * d) + (low * d + rest)) (under * d)))] := by
  have hd0 : 0 < d := by omega
  have hud : 0 < under * d := Int.mul_pos (by omega) hd0
  have hr0 : 0 ≤ low * d + rest := by have := Int.mul_nonneg l0 (Int.le_of_lt hd0); omega
  have hr1 : low * d + rest < under * d := by
    have := Int.mul_le_mul_of_nonneg_right (show low + 1 ≤ under by omega) (Int.le_of_lt hd0)
    rw [Int.add_mul, Int.one_mul] at this; omega
  have eq1 : (w * (under * d) + (low * d + rest)) / (under * d) = w := by
    rw [Int.ediv_eq_iff_of_pos hud]; omega
  have eq2 : (w * (under * d) + (low * d + rest)) % (under * d) = low * d + rest := by
    rw [Int.add_comm, Int.add_mul_emod_self_right, Int.emod_eq_of_lt hr0 hr1]
  have hsome : 0 < low * d + rest ↔ (0 < low ∨ 0 < rest) := by
    constructor
    · intro h
      by_cases c : 0 < low
      · exact .inl c
      · right
        have : low = 0 := by omega
        subst this; omega
    · rintro (h | h)
      · have := Int.mul_pos h hd0; omega
      · have := Int.mul_nonneg l0 (Int.le_of_lt hd0); omega
  unfold refR
  rw [eq1, eq2]
  simp only [hsome]
  have wp : IntKind.i64.wrap (w + 1) = w + 1 := wrap_id (by omega) (by omega)
  have w2m : w.tmod 2 = 0 ↔ w % 2 = 0 := by
    rw [← Int.dvd_iff_tmod_eq_zero, Int.dvd_iff_emod_eq_zero]
  -- some
  have hs : ∀ X : Bool → R, (bif ltI 0 low then X true else X (ltI 0 rest)) = X (decide (0 < low ∨ 0 < rest)) := by
    intro X
    by_cases c : 0 < low
    · rw [ltI_t c, decide_eq_true (.inl c)]; rfl
    · rw [ltI_f (by omega)]
      by_cases c2 : 0 < rest
      · rw [ltI_t c2, decide_eq_true (.inr c2)]; rfl
      · rw [ltI_f (by omega), decide_eq_false (by omega)]; rfl
  refine Ev.of 0 rfl fun k _ => ?_
  rw [R76]
  simp only [PV.toInt, J76_2_eq, PV.toBool, PV.toStr, J76_5_eq, J76_19_eq, J76_16_eq, J76_17_eq, J76_17s1_eq, J76_18_eq, wp]
  unfold sZero sUp sNear
  cases (round.data.toList == (ByteArray.mk #[122, 101, 114, 111]).data.toList) with
  | true =>
    simp only [cond_true]
    refine (hs fun b => bif ltI w 0 then bif b then some ([AO.pv (Ty.int IntKind.i64) (PV.int IntKind.i64 (w + 1))], []) else some ([AO.pv (Ty.int IntKind.i64) (PV.int IntKind.i64 w)], []) else some ([AO.pv (Ty.int IntKind.i64) (PV.int IntKind.i64 w)], [])).trans ?_
    by_cases c : w < 0
    · rw [ltI_t c]
      by_cases c2 : 0 < low ∨ 0 < rest
      · rw [decide_eq_true c2, if_pos ⟨c, c2⟩]; rfl
      · rw [decide_eq_false c2, if_neg (fun h => c2 h.2)]; rfl
    · rw [ltI_f (by omega), if_neg (fun h => c h.1)]; rfl
  | false =>
    simp only [cond_false]
    cases (round.data.toList == (ByteArray.mk #[117, 112]).data.toList) with
    | true =>
      simp only [cond_true]
      refine (hs fun b => bif b then some ([AO.pv (Ty.int IntKind.i64) (PV.int IntKind.i64 (w + 1))], []) else some ([AO.pv (Ty.int IntKind.i64) (PV.int IntKind.i64 w)], [])).trans ?_
      by_cases c2 : 0 < low ∨ 0 < rest
      · rw [decide_eq_true c2, if_pos c2]; rfl
      · rw [decide_eq_false c2, if_neg c2]; rfl
    | false =>
      simp only [cond_false]
      cases (round.data.toList == (ByteArray.mk #[110, 101, 97, 114]).data.toList) with
      | false => simp only [cond_false]; cases ltI 0 low <;> rfl
      | true =>
        simp only [cond_true]
        refine (hs fun _ => _).trans ?_
        -- over, half
        have fin : ∀ over half : Bool, (over = true ↔ under * d < 2 * (low * d + rest)) → (half = true ↔ 2 * (low * d + rest) = under * d) →
            (bif over then some ([AO.pv (Ty.int IntKind.i64) (PV.int IntKind.i64 (w + 1))], []) else bif half then bif !eqI (w.tmod 2) 0 then some ([AO.pv (Ty.int IntKind.i64) (PV.int IntKind.i64 (w + 1))], []) else some ([AO.pv (Ty.int IntKind.i64) (PV.int IntKind.i64 w)], []) else some ([AO.pv (Ty.int IntKind.i64) (PV.int IntKind.i64 w)], []) : R) =
            some ([AO.pv (Ty.int IntKind.i64) (PV.int IntKind.i64 (if under * d < 2 * (low * d + rest) ∨ 2 * (low * d + rest) = under * d ∧ w % 2 ≠ 0 then w + 1 else w))], []) := by
          intro over half ho hh
          by_cases c : under * d < 2 * (low * d + rest)
          · rw [ho.2 c, if_pos (.inl c)]; rfl
          · have : over = false := by cases over; rfl; exact absurd (ho.1 rfl) c
            rw [this, cond_false]
            by_cases c2 : 2 * (low * d + rest) = under * d
            · rw [hh.2 c2, cond_true]
              by_cases c3 : w % 2 = 0
              · rw [eqI_t (w2m.2 c3), if_neg (by omega)]; rfl
              · rw [eqI_f (fun h => c3 (w2m.1 h)), if_pos (.inr ⟨c2, c3⟩)]; rfl
            · have : half = false := by cases half; rfl; exact absurd (hh.1 rfl) c2
              rw [this, if_neg (by omega)]; rfl
        rcases hu with hu | ⟨h, hu, h1⟩
        · subst hu
          have : low = 0 := by omega
          subst this
          rw [eqI_t (show (1 : Int) = 1 from rfl), wrap_id (n := d - rest) (by omega) (by omega)]
          simp only [cond_true]
          refine fin _ _ ?_ ?_
          · rw [show ltI (d - rest) rest = decide (d - rest < rest) from rfl, decide_eq_true_eq]; omega
          · rw [show eqI rest (d - rest) = decide (rest = d - rest) from rfl, decide_eq_true_eq]; omega
        · have e : IntKind.i64.wrap (under.tdiv 2) = h := by
            rw [hu, Int.mul_comm, Int.mul_tdiv_cancel _ (by decide)]; exact wrap_id (by omega) (by omega)
          rw [eqI_f (show under ≠ 1 by omega), e]
          simp only [cond_false]
          have cmp1 : h < low → under * d < 2 * (low * d + rest) := fun hl => by
            have := Int.mul_le_mul_of_nonneg_right (show h + 1 ≤ low by omega) (Int.le_of_lt hd0)
            rw [Int.add_mul, Int.one_mul] at this
            rw [hu, Int.mul_assoc]; omega
          have cmp2 : low < h → 2 * (low * d + rest) < under * d := fun hl => by
            have := Int.mul_le_mul_of_nonneg_right (show low + 1 ≤ h by omega) (Int.le_of_lt hd0)
            rw [Int.add_mul, Int.one_mul] at this
            rw [hu, Int.mul_assoc]; omega
          have cmp3 : low = h → (under * d < 2 * (low * d + rest) ↔ 0 < rest) ∧ (2 * (low * d + rest) = under * d ↔ rest = 0) := fun hl => by
            rw [hl, hu, Int.mul_assoc]; omega
          by_cases c : h < low
          · rw [ltI_t c, cond_true, eqI_f (show low ≠ h by omega), cond_false]
            exact fin true false ⟨fun _ => cmp1 c, fun _ => rfl⟩ ⟨fun h => (by cases h), fun h => by have := cmp1 c; omega⟩
          · rw [ltI_f (by omega), cond_false]
            by_cases c2 : low = h
            · obtain ⟨a, b⟩ := cmp3 c2
              rw [eqI_t c2, cond_true, cond_true]
              refine fin _ _ ?_ ?_
              · rw [a, show ltI 0 rest = decide (0 < rest) from rfl, decide_eq_true_eq]
              · rw [b, show eqI rest 0 = decide (rest = 0) from rfl, decide_eq_true_eq]
            · rw [eqI_f c2, cond_false, cond_false]
              exact fin false false ⟨fun h => (by cases h), fun h => by have := cmp2 (by omega); omega⟩ ⟨fun h => (by cases h), fun h => by have := cmp2 (by omega); omega⟩
end Go.V

set_option linter.unusedSimpArgs false
set_option linter.unusedVariables false
set_option maxRecDepth 100000
namespace Go.V
open Go.Proofs

theorem two49 {k : Int} (h0 : 0 ≤ k) (h1 : k ≤ 61) : Ev 49 [.pv (.int .i64) (.int .i64 k)] [.pv (.int .i64) (.int .i64 ((2 ^ k.toNat : Nat) : Int))] := by
  have hp : 2 ^ k.toNat ≤ 2 ^ 61 := Nat.pow_le_pow_right (by decide) (by omega)
  have hp0 : 0 < 2 ^ k.toNat := Nat.pow_pos (by decide)
  refine Ev.of 0 rfl fun j _ => ?_
  rw [R49]
  simp only [PV.toInt]
  rw [ltI_f h0, Nat.min_eq_left (by omega), powI, Int.one_mul, wrap_id (by omega) (by omega)]; rfl

theorem two49_40 : Ev 49 [.pv (.int .i64) (.int .i64 40)] [.pv (.int .i64) (.int .i64 1099511627776)] := two49 (k := 40) (by omega) (by omega)

theorem tys24 : List.map (tyOf Tryd.prog) [2, 4] = [.int .i64, .bool] := by kernel_rfl

/-- What shift tells: the rounded quotient, or that it is beyond. -/
def ShOk (round : ByteArray) (X Y w : Int) (b : Bool) : Prop :=
  (b = true → w = refR round X Y ∧ -1099511627776 ≤ X / Y ∧ X / Y ≤ 1099511627776) ∧ (b = false → 1099511627776 < X / Y ∨ X / Y < -1099511627776)

theorem ShOk.scale {round : ByteArray} {X Y w c : Int} {b : Bool} (hc : 0 < c) (h : ShOk round X Y w b) : ShOk round (X * c) (Y * c) w b := by
  have e1 : X * c / (Y * c) = X / Y := Int.mul_ediv_mul_of_pos_left _ _ hc
  unfold ShOk at h ⊢
  rw [refR_scale hc, e1]; exact h

section
variable {round : ByteArray}

/-- The end of shift. -/
theorem fin67 {w rest d under low : Int} (w1 : -6917529027641081856 ≤ w) (w2 : w ≤ 6917529027641081856) (l0 : 0 ≤ low) (l1 : low < under) (hu : (under = 1) ∨ ∃ h, under = 2 * h ∧ 1 ≤ h) (hul : under ≤ 6917529027641081856)
    (r0 : 0 ≤ rest) (r1 : rest < d) (hd : d ≤ 6917529027641081856) :
    ∃ z b, ShOk round (w * (under * d) + (low * d + rest)) (under * d) z b ∧ Evt fun k =>
      (let c5 := EG k 49 [AO.pv (Ty.int IntKind.i64) (PV.int IntKind.i64 40)]
       bif okRes (Ty.int IntKind.i64) c5 then
         bif ltI ((resPV c5).toInt) w then some ([AO.pv (Ty.int IntKind.i64) (.int .i64 w), AO.pv Ty.bool (PV.bool false)], [])
         else
           let c6 := EG k 49 [AO.pv (Ty.int IntKind.i64) (PV.int IntKind.i64 40)]
           bif okRes (Ty.int IntKind.i64) c6 then
             bif ltI w (IntKind.i64.wrap (0 - (resPV c6).toInt)) then some ([AO.pv (Ty.int IntKind.i64) (.int .i64 w), AO.pv Ty.bool (PV.bool false)], [])
             else
               let c7 := EG k 76 [AO.pv Ty.str (.str round), AO.pv (Ty.int IntKind.i64) (.int .i64 w), AO.pv (Ty.int IntKind.i64) (.int .i64 low), AO.pv (Ty.int IntKind.i64) (.int .i64 under), AO.pv (Ty.int IntKind.i64) (.int .i64 rest), AO.pv (Ty.int IntKind.i64) (.int .i64 d)]
               bif okRes (Ty.int IntKind.i64) c7 then some ([AO.pv (Ty.int IntKind.i64) (resPV c7), AO.pv Ty.bool (PV.bool true)], []) else none
           else none
       else none) = (some ([.pv (.int .i64) (.int .i64 z), .pv .bool (.bool b)], []) : R) := by
  have hud : 0 < under * d := Int.mul_pos (by omega) (by omega)
  have eq1 : (w * (under * d) + (low * d + rest)) / (under * d) = w := by
    have hr0 : 0 ≤ low * d + rest := by have := Int.mul_nonneg l0 (show 0 ≤ d by omega); omega
    have hr1 : low * d + rest < under * d := by
      have := Int.mul_le_mul_of_nonneg_right (show low + 1 ≤ under by omega) (show 0 ≤ d by omega)
      rw [Int.add_mul, Int.one_mul] at this; omega
    rw [Int.ediv_eq_iff_of_pos hud]; omega
  have w40 : IntKind.i64.wrap (0 - 1099511627776) = -1099511627776 := by decide
  obtain ⟨K, hK⟩ := two49_40.evt.and (rounded76 (round := round) w1 w2 l0 l1 hu hul r0 r1 hd).evt
  by_cases c1 : 1099511627776 < w
  · refine ⟨w, false, ⟨fun h => (by cases h), fun _ => by rw [eq1]; omega⟩, K, fun k hk => ?_⟩
    obtain ⟨h1, h2⟩ := hK k hk
    simp only [PV.cell, PV.cells, List.getD_cons_succ, List.getD_cons_zero, PV.toInt, PV.toStr, PV.toBool, okRes, resPV, Ty.eq, Nat.beq_refl, decide_true, Bool.not_true, Bool.not_false, cond_true, cond_false, h1]
    rw [ltI_t c1]; rfl
  · by_cases c2 : w < -1099511627776
    · refine ⟨w, false, ⟨fun h => (by cases h), fun _ => by rw [eq1]; omega⟩, K, fun k hk => ?_⟩
      obtain ⟨h1, h2⟩ := hK k hk
      simp only [PV.cell, PV.cells, List.getD_cons_succ, List.getD_cons_zero, PV.toInt, PV.toStr, PV.toBool, okRes, resPV, Ty.eq, Nat.beq_refl, decide_true, Bool.not_true, Bool.not_false, cond_true, cond_false, h1, w40]
      rw [ltI_f (show w ≤ 1099511627776 by omega), ltI_t c2]; rfl
    · refine ⟨_, true, ⟨fun _ => ⟨rfl, by rw [eq1]; omega, by rw [eq1]; omega⟩, fun h => (by cases h)⟩, K, fun k hk => ?_⟩
      obtain ⟨h1, h2⟩ := hK k hk
      simp only [PV.cell, PV.cells, List.getD_cons_succ, List.getD_cons_zero, PV.toInt, PV.toStr, PV.toBool, okRes, resPV, Ty.eq, Nat.beq_refl, decide_true, Bool.not_true, Bool.not_false, cond_true, cond_false, h1, w40, h2]
      rw [ltI_f (show w ≤ 1099511627776 by omega), ltI_f (show -1099511627776 ≤ w by omega)]; rfl

theorem sh22 {kk w rest d : Int} (k0 : kk ≤ 0) (k1 : -31 ≤ kk) (w1 : -6917529027641081856 ≤ w) (w2 : w ≤ 6917529027641081856) (r0 : 0 ≤ rest) (r1 : rest < d) (hd : d ≤ 6917529027641081856) :
    ∃ z b, ShOk round (w * d + rest) (d * ((2 ^ (-kk).toNat : Nat) : Int)) z b ∧ Evt fun k => J67_22 gate1 (EG k) k (.str round) (.int .i64 kk) (.int .i64 d) (.int .i64 w) (.int .i64 rest) (.int .i64 1) (.int .i64 0) =
      some ([.pv (.int .i64) (.int .i64 z), .pv .bool (.bool b)], []) := by
  by_cases c : kk < 0
  · have hp : 2 ^ (-kk).toNat ≤ 2 ^ 31 := Nat.pow_le_pow_right (by decide) (by omega)
    have hp0 : 0 < 2 ^ (-kk).toNat := Nat.pow_pos (by decide)
    have hev : ∃ h : Int, ((2 ^ (-kk).toNat : Nat) : Int) = 2 * h ∧ 1 ≤ h := by
      refine ⟨((2 ^ ((-kk).toNat - 1) : Nat) : Int), ?_, ?_⟩
      · have : 2 ^ (-kk).toNat = 2 * 2 ^ ((-kk).toNat - 1) := by rw [Nat.mul_comm, ← Nat.pow_succ]; congr 1; omega
        rw [this]; omega
      · have : 0 < 2 ^ ((-kk).toNat - 1) := Nat.pow_pos (by decide)
        omega
    have h49 := two49 (k := -kk) (by omega) (by omega)
    generalize 2 ^ (-kk).toNat = u at *
    have hu0 : (0 : Int) < u := by omega
    have h75 := floor75 w1 w2 hu0
    have hq := Int.mul_ediv_add_emod w u
    have hm0 := Int.emod_nonneg w (show (u : Int) ≠ 0 by omega)
    have hm1 := Int.emod_lt_of_pos w hu0
    have hb : -6917529027641081856 ≤ w / u ∧ w / u ≤ 6917529027641081856 := by
      constructor
      · rw [Int.le_ediv_iff_mul_le hu0]
        have : (-6917529027641081856 : Int) * u ≤ -6917529027641081856 * 1 := Int.mul_le_mul_of_nonpos_left (by omega) (by omega)
        omega
      · by_cases hw : 0 ≤ w
        · have := Int.ediv_le_self (b := (u : Int)) hw; omega
        · have := Int.ediv_neg_of_neg_of_pos (show w < 0 by omega) hu0; omega
    have e1 : w - w / u * u = w % u := by rw [Int.mul_comm] at hq; omega
    have wu1 : IntKind.i64.wrap (w / u * u) = w / u * u := by rw [Int.mul_comm] at hq; exact wrap_id (by omega) (by omega)
    have wu2 : IntKind.i64.wrap (w % u) = w % u := wrap_id (by omega) (by omega)
    obtain ⟨z, b, hs, K, hK⟩ := fin67 (round := round) (w := w / u) (rest := rest) (d := d) (under := u) (low := w % u) hb.1 hb.2 hm0 hm1 (.inr hev) (by omega) r0 r1 hd
    refine ⟨z, b, ?_, ?_⟩
    · have : w / u * (u * d) + (w % u * d + rest) = w * d + rest := by
        rw [← Int.mul_assoc, ← Int.add_assoc, ← Int.add_mul, Int.mul_comm (w / u), hq]
      rw [this, Int.mul_comm (u : Int)] at hs
      exact hs
    · obtain ⟨K2, hK2⟩ := h49.evt.and h75.evt
      refine ⟨K + K2, fun k hk => ?_⟩
      obtain ⟨h1, h2⟩ := hK2 k (by omega)
      have h3 := hK k (by omega)
      rw [J67_22_eq]
      simp only [PV.cell, PV.cells, List.getD_cons_succ, List.getD_cons_zero, PV.toInt, PV.toStr, PV.toBool, okRes, resPV, Ty.eq, Nat.beq_refl, decide_true, Bool.not_true, Bool.not_false, cond_true, cond_false]
      rw [ltI_t c, show (0 : Int) - kk = -kk by omega, wrap_id (n := -kk) (by omega) (by omega)]
      simp only [PV.cell, PV.cells, List.getD_cons_succ, List.getD_cons_zero, PV.toInt, PV.toStr, PV.toBool, okRes, resPV, Ty.eq, Nat.beq_refl, decide_true, Bool.not_true, Bool.not_false, cond_true, cond_false, h1, h2, wu1, e1, wu2, J67_27_eq, J67_28_eq, J67_29_eq]
      simp only [PV.cell, PV.cells, List.getD_cons_succ, List.getD_cons_zero, PV.toInt, PV.toStr, PV.toBool, okRes, resPV, Ty.eq, Nat.beq_refl, decide_true, Bool.not_true, Bool.not_false, cond_true, cond_false] at h3
      exact h3
  · have hk0 : kk = 0 := by omega
    subst hk0
    obtain ⟨z, b, hs, K, hK⟩ := fin67 (round := round) (w := w) (rest := rest) (d := d) (under := 1) (low := 0) w1 w2 (by omega) (by omega) (.inl rfl) (by omega) r0 r1 hd
    refine ⟨z, b, ?_, K, fun k hk => ?_⟩
    · rw [Int.one_mul, Int.zero_mul, Int.zero_add] at hs
      rw [show d * ((2 ^ (-(0 : Int)).toNat : Nat) : Int) = d by simp]
      exact hs
    · have h3 := hK k hk
      dsimp only
      rw [J67_22_eq]
      simp only [PV.cell, PV.cells, List.getD_cons_succ, List.getD_cons_zero, PV.toInt, PV.toStr, PV.toBool, okRes, resPV, Ty.eq, Nat.beq_refl, decide_true, Bool.not_true, Bool.not_false, cond_true, cond_false]
      rw [ltI_f (show (0 : Int) ≤ 0 by omega)]
      simp only [PV.cell, PV.cells, List.getD_cons_succ, List.getD_cons_zero, PV.toInt, PV.toStr, PV.toBool, okRes, resPV, Ty.eq, Nat.beq_refl, decide_true, Bool.not_true, Bool.not_false, cond_true, cond_false, J67_27s1_eq, J67_28s1_eq, J67_29s1_eq]
      simp only [PV.cell, PV.cells, List.getD_cons_succ, List.getD_cons_zero, PV.toInt, PV.toStr, PV.toBool, okRes, resPV, Ty.eq, Nat.beq_refl, decide_true, Bool.not_true, Bool.not_false, cond_true, cond_false] at h3
      exact h3
end
end Go.V

set_option linter.unusedSimpArgs false
set_option linter.unusedVariables false
set_option maxRecDepth 100000
namespace Go.V
open Go.Proofs

section
variable {round : ByteArray}

theorem pow_succ_int (e : Nat) : ((2 ^ (e + 1) : Nat) : Int) = ((2 ^ e : Nat) : Int) * 2 := by rw [Nat.pow_succ, Int.natCast_mul]; rfl

theorem sh13 {d : Int} (hd : d ≤ 2305843009213693952) : ∀ (e : Nat), e ≤ 31 → ∀ (w rest : Int), -6917529027641081856 ≤ w → w ≤ 6917529027641081856 → 0 ≤ rest → rest < d →
    ∃ z b, ShOk round ((w * d + rest) * ((2 ^ e : Nat) : Int)) d z b ∧ Lv (fun k n => L67_13 gate1 (EG k) k n (.str round) (.int .i64 e) (.int .i64 d) (.int .i64 w) (.int .i64 rest) (.int .i64 1) (.int .i64 0))
      [.pv (.int .i64) (.int .i64 z), .pv .bool (.bool b)]
  | 0, _, w, rest, w1, w2, r0, r1 => by
    obtain ⟨z, b, hs, K, hK⟩ := sh22 (round := round) (kk := 0) (by omega) (by omega) w1 w2 r0 r1 (by omega)
    refine ⟨z, b, ?_, Lv.of K fun k n hk _ => ?_⟩
    · simpa using hs
    · rw [L67_13_succ]
      simp only [PV.toInt]
      rw [ltI_f (show ((0 : Nat) : Int) ≤ 0 by omega)]
      exact hK k hk
  | e + 1, he, w, rest, w1, w2, r0, r1 => by
    have hd0 : 0 < d := by omega
    obtain ⟨K0, h40⟩ := two49_40.evt
    have w40 : IntKind.i64.wrap (0 - 1099511627776) = -1099511627776 := by decide
    have p1 : (1 : Int) ≤ ((2 ^ (e + 1) : Nat) : Int) := by have : 0 < 2 ^ (e + 1) := Nat.pow_pos (by decide); omega
    by_cases c1 : 1099511627776 < w
    · refine ⟨w, false, ⟨fun h => (by cases h), fun _ => .inl ?_⟩, Lv.of K0 fun k n hk _ => ?_⟩
      · have h1 : 0 ≤ w * d := Int.mul_nonneg (by omega) (by omega)
        have h2 : (w * d + rest) * 1 ≤ (w * d + rest) * ((2 ^ (e + 1) : Nat) : Int) := Int.mul_le_mul_of_nonneg_left p1 (by omega)
        have : w ≤ (w * d + rest) * ((2 ^ (e + 1) : Nat) : Int) / d := by rw [Int.le_ediv_iff_mul_le hd0]; omega
        omega
      · rw [L67_13_succ]
        simp only [PV.cell, PV.cells, List.getD_cons_succ, List.getD_cons_zero, PV.toInt, PV.toStr, PV.toBool, okRes, resPV, Ty.eq, Nat.beq_refl, decide_true, Bool.not_true, Bool.not_false, cond_true, cond_false, J67_14_eq, h40 k hk, J67_15_eq]
        rw [ltI_t (show (0 : Int) < ((e + 1 : Nat) : Int) by omega), ltI_t c1]; rfl
    · by_cases c2 : w < -1099511627776
      · refine ⟨w, false, ⟨fun h => (by cases h), fun _ => .inr ?_⟩, Lv.of K0 fun k n hk _ => ?_⟩
        · have h1 : (w + 1) * d ≤ -1099511627776 * d := Int.mul_le_mul_of_nonneg_right (by omega) (by omega)
          rw [Int.add_mul, Int.one_mul] at h1
          have h2 : (w * d + rest) * ((2 ^ (e + 1) : Nat) : Int) ≤ (w * d + rest) * 1 := Int.mul_le_mul_of_nonpos_left (by omega) p1
          rw [Int.ediv_lt_iff_lt_mul hd0]; omega
        · rw [L67_13_succ]
          simp only [PV.cell, PV.cells, List.getD_cons_succ, List.getD_cons_zero, PV.toInt, PV.toStr, PV.toBool, okRes, resPV, Ty.eq, Nat.beq_refl, decide_true, Bool.not_true, Bool.not_false, cond_true, cond_false, J67_14_eq, h40 k hk, J67_15_eq, w40]
          rw [ltI_t (show (0 : Int) < ((e + 1 : Nat) : Int) by omega), ltI_f (show w ≤ 1099511627776 by omega), ltI_t c2]; rfl
      · have we : IntKind.i64.wrap (((e + 1 : Nat) : Int) - 1) = (e : Int) := by rw [wrap_id (by omega) (by omega)]; omega
        have wdr : IntKind.i64.wrap (d - rest) = d - rest := wrap_id (by omega) (by omega)
        have w2w : IntKind.i64.wrap (2 * w) = 2 * w := wrap_id (by omega) (by omega)
        have w2w1 : IntKind.i64.wrap (2 * w + 1) = 2 * w + 1 := wrap_id (by omega) (by omega)
        have wr : IntKind.i64.wrap (2 * rest) = 2 * rest := wrap_id (by omega) (by omega)
        have wr2 : IntKind.i64.wrap (rest - (d - rest)) = rest - (d - rest) := wrap_id (by omega) (by omega)
        by_cases c3 : d - rest ≤ rest
        · obtain ⟨z, b, hs, K, hK⟩ := sh13 hd e (by omega) (2 * w + 1) (rest - (d - rest)) (by omega) (by omega) (by omega) (by omega)
          refine ⟨z, b, ?_, Lv.of (K0 + K) fun k n hk hn => ?_⟩
          · have : ((2 * w + 1) * d + (rest - (d - rest))) * ((2 ^ e : Nat) : Int) = (w * d + rest) * ((2 ^ (e + 1) : Nat) : Int) := by
              rw [pow_succ_int]
              generalize ((2 ^ e : Nat) : Int) = P
              grind
            rw [← this]; exact hs
          · rw [L67_13_succ]
            simp only [PV.cell, PV.cells, List.getD_cons_succ, List.getD_cons_zero, PV.toInt, PV.toStr, PV.toBool, okRes, resPV, Ty.eq, Nat.beq_refl, decide_true, Bool.not_true, Bool.not_false, cond_true, cond_false, J67_14_eq, h40 k (by omega), J67_15_eq, w40, J67_16_eq, J67_21_eq, wdr, w2w, w2w1, wr2, we]
            rw [ltI_t (show (0 : Int) < ((e + 1 : Nat) : Int) by omega), ltI_f (show w ≤ 1099511627776 by omega), ltI_f (show -1099511627776 ≤ w by omega), leI_t c3]
            exact hK k n (by omega) (by omega)
        · obtain ⟨z, b, hs, K, hK⟩ := sh13 hd e (by omega) (2 * w) (2 * rest) (by omega) (by omega) (by omega) (by omega)
          refine ⟨z, b, ?_, Lv.of (K0 + K) fun k n hk hn => ?_⟩
          · have : (2 * w * d + 2 * rest) * ((2 ^ e : Nat) : Int) = (w * d + rest) * ((2 ^ (e + 1) : Nat) : Int) := by
              rw [pow_succ_int]
              generalize ((2 ^ e : Nat) : Int) = P
              grind
            rw [← this]; exact hs
          · rw [L67_13_succ]
            simp only [PV.cell, PV.cells, List.getD_cons_succ, List.getD_cons_zero, PV.toInt, PV.toStr, PV.toBool, okRes, resPV, Ty.eq, Nat.beq_refl, decide_true, Bool.not_true, Bool.not_false, cond_true, cond_false, J67_14_eq, h40 k (by omega), J67_15_eq, w40, J67_16_eq, J67_21s1_eq, wdr, w2w, wr, we]
            rw [ltI_t (show (0 : Int) < ((e + 1 : Nat) : Int) by omega), ltI_f (show w ≤ 1099511627776 by omega), ltI_f (show -1099511627776 ≤ w by omega), leI_f (show rest < d - rest by omega)]
            exact hK k n (by omega) (by omega)

theorem sh9 {kk N D : Int} (k1 : -31 ≤ kk) (k2 : kk ≤ 31) (n1 : -6917529027641081856 ≤ N) (n2 : N ≤ 6917529027641081856) (d1 : 0 < D) (d2 : D ≤ 2305843009213693952) :
    ∃ z b, ShOk round (N * ((2 ^ kk.toNat : Nat) : Int)) (D * ((2 ^ (-kk).toNat : Nat) : Int)) z b ∧
      Evt fun k => J67_9 gate1 (EG k) k (.str round) (.int .i64 kk) (.int .i64 N) (.int .i64 D) = some ([.pv (.int .i64) (.int .i64 z), .pv .bool (.bool b)], []) := by
  have h75 := floor75 n1 n2 d1
  have hq := Int.mul_ediv_add_emod N D
  have hm0 := Int.emod_nonneg N (show D ≠ 0 by omega)
  have hm1 := Int.emod_lt_of_pos N d1
  have hb : -6917529027641081856 ≤ N / D ∧ N / D ≤ 6917529027641081856 := by
    constructor
    · rw [Int.le_ediv_iff_mul_le d1]
      have : (-6917529027641081856 : Int) * D ≤ -6917529027641081856 * 1 := Int.mul_le_mul_of_nonpos_left (by omega) (by omega)
      omega
    · by_cases hw : 0 ≤ N
      · have := Int.ediv_le_self D hw; omega
      · have := Int.ediv_neg_of_neg_of_pos (show N < 0 by omega) d1; omega
  have e1 : N - N / D * D = N % D := by rw [Int.mul_comm] at hq; omega
  have e2 : N / D * D + N % D = N := by rw [Int.mul_comm]; exact hq
  have wu1 : IntKind.i64.wrap (N / D * D) = N / D * D := by rw [Int.mul_comm] at hq; exact wrap_id (by omega) (by omega)
  have wu2 : IntKind.i64.wrap (N % D) = N % D := wrap_id (by omega) (by omega)
  have start : ∀ {z : Int} {b : Bool}, Lv (fun k n => L67_13 gate1 (EG k) k n (.str round) (.int .i64 kk) (.int .i64 D) (.int .i64 (N / D)) (.int .i64 (N % D)) (.int .i64 1) (.int .i64 0)) [.pv (.int .i64) (.int .i64 z), .pv .bool (.bool b)] →
      Evt fun k => J67_9 gate1 (EG k) k (.str round) (.int .i64 kk) (.int .i64 N) (.int .i64 D) = some ([.pv (.int .i64) (.int .i64 z), .pv .bool (.bool b)], []) := by
    rintro z b ⟨K, hK⟩
    obtain ⟨K2, h2⟩ := h75.evt
    refine ⟨K + K2, fun k hk => ?_⟩
    dsimp only
    rw [J67_9_eq]
    simp only [PV.cell, PV.cells, List.getD_cons_succ, List.getD_cons_zero, PV.toInt, PV.toStr, PV.toBool, okRes, resPV, Ty.eq, Nat.beq_refl, decide_true, Bool.not_true, Bool.not_false, cond_true, cond_false, h2 k (by omega), wu1, e1, wu2]
    exact hK k k (by omega) (by omega)
  by_cases c : 0 < kk
  · obtain ⟨z, b, hs, hL⟩ := sh13 (round := round) d2 kk.toNat (by omega) (N / D) (N % D) hb.1 hb.2 hm0 hm1
    rw [show ((kk.toNat : Nat) : Int) = kk by omega] at hL
    refine ⟨z, b, ?_, start hL⟩
    rw [e2] at hs
    rw [show (-kk).toNat = 0 by omega]
    simpa using hs
  · obtain ⟨z, b, hs, K, hK⟩ := sh22 (round := round) (kk := kk) (by omega) k1 hb.1 hb.2 hm0 hm1 (by omega)
    refine ⟨z, b, ?_, start (Lv.of K fun k n hk _ => ?_)⟩
    · rw [e2] at hs
      rw [show kk.toNat = 0 by omega]
      simpa using hs
    · rw [L67_13_succ]
      simp only [PV.toInt]
      rw [ltI_f (show kk ≤ 0 by omega)]
      exact hK k hk

theorem tdiv2 {a : Int} (h : a % 2 = 0) : a.tdiv 2 = a / 2 := by rw [Int.tdiv_eq_ediv, if_pos (.inr (Int.dvd_of_emod_eq_zero h)), Int.add_zero]
theorem tmod2 {a : Int} : a.tmod 2 = 0 ↔ a % 2 = 0 := by rw [← Int.dvd_iff_tmod_eq_zero, Int.dvd_iff_emod_eq_zero]

theorem sh6 {D : Int} (d1 : 0 < D) (d2 : D ≤ 2305843009213693952) : ∀ (t : Nat) (kk N : Int), (kk = -(t : Int) ∨ (t = 0 ∧ 0 < kk)) → -31 ≤ kk → kk ≤ 31 → -6917529027641081856 ≤ N → N ≤ 6917529027641081856 →
    ∃ z b, ShOk round (N * ((2 ^ kk.toNat : Nat) : Int)) (D * ((2 ^ (-kk).toNat : Nat) : Int)) z b ∧
      Lv (fun k n => L67_6 gate1 (EG k) k n (.str round) (.int .i64 kk) (.int .i64 N) (.int .i64 D)) [.pv (.int .i64) (.int .i64 z), .pv .bool (.bool b)]
  | 0, kk, N, hkk, k1, k2, n1, n2 => by
    obtain ⟨z, b, hs, K, hK⟩ := sh9 (round := round) k1 k2 n1 n2 d1 d2
    refine ⟨z, b, hs, Lv.of K fun k n hk _ => ?_⟩
    rw [L67_6_succ]
    simp only [PV.toInt]
    rw [ltI_f (show 0 ≤ kk by omega)]
    exact hK k hk
  | t + 1, kk, N, hkk, k1, k2, n1, n2 => by
    by_cases c : N % 2 = 0
    · obtain ⟨z, b, hs, K, hK⟩ := sh6 d1 d2 t (kk + 1) (N / 2) (by omega) (by omega) (by omega) (by omega) (by omega)
      refine ⟨z, b, ?_, Lv.of K fun k n hk hn => ?_⟩
      · have := hs.scale (c := 2) (by omega)
        rw [show (kk + 1).toNat = 0 by omega, show (-(kk + 1)).toNat = t by omega] at this
        rw [show kk.toNat = 0 by omega, show (-kk).toNat = t + 1 by omega, pow_succ_int, ← Int.mul_assoc]
        have e : N / 2 * ((2 ^ 0 : Nat) : Int) * 2 = N * ((2 ^ 0 : Nat) : Int) := by simp; omega
        rw [e] at this
        exact this
      · rw [L67_6_succ]
        simp only [PV.toInt, J67_7_eq]
        rw [ltI_t (show kk < 0 by omega), eqI_t (tmod2.2 c), wrap_id (n := kk + 1) (by omega) (by omega), tdiv2 c, wrap_id (n := N / 2) (by omega) (by omega)]
        exact hK k n hk hn
    · obtain ⟨z, b, hs, K, hK⟩ := sh9 (round := round) k1 k2 n1 n2 d1 d2
      refine ⟨z, b, hs, Lv.of K fun k n hk _ => ?_⟩
      rw [L67_6_succ]
      simp only [PV.toInt]
      rw [ltI_t (show kk < 0 by omega), eqI_f (fun h => c (tmod2.1 h))]
      exact hK k hk

theorem sh3 : ∀ (e : Nat) (kk N D : Int), (kk = (e : Int) ∨ (e = 0 ∧ kk < 0)) → -31 ≤ kk → kk ≤ 31 → -6917529027641081856 ≤ N → N ≤ 6917529027641081856 → 0 < D → D ≤ 2305843009213693952 →
    ∃ z b, ShOk round (N * ((2 ^ kk.toNat : Nat) : Int)) (D * ((2 ^ (-kk).toNat : Nat) : Int)) z b ∧
      Lv (fun k n => L67_3 gate1 (EG k) k n (.str round) (.int .i64 kk) (.int .i64 N) (.int .i64 D)) [.pv (.int .i64) (.int .i64 z), .pv .bool (.bool b)]
  | 0, kk, N, D, hkk, k1, k2, n1, n2, d1, d2 => by
    obtain ⟨z, b, hs, K, hK⟩ := sh6 (round := round) d1 d2 (-kk).toNat kk N (by omega) k1 k2 n1 n2
    refine ⟨z, b, hs, Lv.of K fun k n hk _ => ?_⟩
    rw [L67_3_succ]
    simp only [PV.toInt]
    rw [ltI_f (show kk ≤ 0 by omega)]
    exact hK k k hk hk
  | e + 1, kk, N, D, hkk, k1, k2, n1, n2, d1, d2 => by
    by_cases c : D % 2 = 0
    · obtain ⟨z, b, hs, K, hK⟩ := sh3 e (kk - 1) N (D / 2) (by omega) (by omega) (by omega) n1 n2 (by omega) (by omega)
      refine ⟨z, b, ?_, Lv.of K fun k n hk hn => ?_⟩
      · have := hs.scale (c := 2) (by omega)
        rw [show (kk - 1).toNat = e by omega, show (-(kk - 1)).toNat = 0 by omega] at this
        rw [show kk.toNat = e + 1 by omega, show (-kk).toNat = 0 by omega, pow_succ_int, ← Int.mul_assoc]
        have e2 : D / 2 * ((2 ^ 0 : Nat) : Int) * 2 = D * ((2 ^ 0 : Nat) : Int) := by simp; omega
        rw [e2] at this
        exact this
      · rw [L67_3_succ]
        simp only [PV.toInt, J67_4_eq]
        rw [ltI_t (show 0 < kk by omega), eqI_t (tmod2.2 c), wrap_id (n := kk - 1) (by omega) (by omega), tdiv2 c, wrap_id (n := D / 2) (by omega) (by omega)]
        exact hK k n hk hn
    · obtain ⟨z, b, hs, K, hK⟩ := sh6 (round := round) d1 d2 0 kk N (by omega) k1 k2 n1 n2
      refine ⟨z, b, hs, Lv.of K fun k n hk _ => ?_⟩
      rw [L67_3_succ]
      simp only [PV.toInt]
      rw [ltI_t (show 0 < kk by omega), eqI_f (fun h => c (tmod2.1 h))]
      exact hK k k hk hk

/-- The reference's shift. -/
theorem shift67 {kk N D : Int} (k1 : -31 ≤ kk) (k2 : kk ≤ 31) (n1 : -6917529027641081856 ≤ N) (n2 : N ≤ 6917529027641081856) (d1 : 0 < D) (d2 : D ≤ 2305843009213693952) :
    ∃ z b, ShOk round (N * ((2 ^ kk.toNat : Nat) : Int)) (D * ((2 ^ (-kk).toNat : Nat) : Int)) z b ∧
      Ev 67 [.pv .str (.str round), .pv (.st 63) (qv (N, D)), .pv (.int .i64) (.int .i64 kk)] [.pv (.int .i64) (.int .i64 z), .pv .bool (.bool b)] := by
  obtain ⟨z, b, hs, K, hK⟩ := sh3 (round := round) kk.toNat kk N D (by omega) k1 k2 n1 n2 d1 d2
  refine ⟨z, b, hs, Ev.of K rfl fun k hk => ?_⟩
  rw [R67]
  exact hK k k hk hk
end
end Go.V

set_option linter.unusedSimpArgs false
set_option linter.unusedVariables false
set_option maxRecDepth 100000
namespace Go.V
open Go.Proofs

section
variable {round : ByteArray}

theorem refR_near (hn : sNear round = true) (hz : sZero round = false) (hu : sUp round = false) {X D : Int} : refR round X D = roundI true X D := by
  unfold refR
  rw [hz, hu, hn, roundI_t]
  simp only [cond_true, cond_false]
  by_cases c : 2 * (X % D) < D ∨ 2 * (X % D) = D ∧ X / D % 2 = 0
  · rw [if_pos c, if_neg (by omega)]
  · rw [if_neg c, if_pos (by omega)]

theorem not_of {s a b : ByteArray} (h : (s.data.toList == a.data.toList) = true) (hab : (a.data.toList == b.data.toList) = false) : (s.data.toList == b.data.toList) = false := by
  have := eq_of_beq h
  rw [this]; exact hab

/-- Towards 0. -/
theorem refR_zero (hz : sZero round = true) {X D : Int} (hD : 1 ≤ D) : refR round X D = sK (ltI X 0) (X.natAbs / D.natAbs) := by
  unfold refR
  rw [hz]
  simp only [cond_true]
  obtain ⟨d, rfl⟩ := Int.eq_ofNat_of_zero_le (show 0 ≤ D by omega)
  rw [Int.natAbs_natCast]
  by_cases c : X < 0
  · obtain ⟨n, rfl⟩ : ∃ n : Nat, X = -(n : Int) := ⟨X.natAbs, by omega⟩
    rw [ltI_t c, Int.natAbs_neg, Int.natAbs_natCast]
    unfold sK
    rw [if_pos rfl]
    have h1 := Nat.div_add_mod' n d
    have h2 := Nat.mod_lt n (show 0 < d by omega)
    have h1' : ((n / d : Nat) : Int) * (d : Int) + ((n % d : Nat) : Int) = n := by
      rw [← Int.natCast_mul, ← Int.natCast_add, h1]
    generalize n / d = q at *
    generalize n % d = r at *
    by_cases hr : r = 0
    · have e1 : -(n : Int) / (d : Int) = -(q : Int) := by
        rw [Int.ediv_eq_iff_of_pos (by omega), Int.neg_mul]; omega
      have e2 : -(n : Int) % (d : Int) = 0 := by
        have := Int.mul_ediv_add_emod (-(n : Int)) (d : Int)
        rw [e1, Int.mul_comm, Int.neg_mul] at this
        omega
      rw [e1, e2, if_neg (by omega)]
    · have e1 : -(n : Int) / (d : Int) = -(q : Int) - 1 := by
        rw [Int.ediv_eq_iff_of_pos (by omega), Int.sub_mul, Int.neg_mul, Int.one_mul]; omega
      have e2 : -(n : Int) % (d : Int) = d - r := by
        have := Int.mul_ediv_add_emod (-(n : Int)) (d : Int)
        rw [e1, Int.mul_comm, Int.sub_mul, Int.neg_mul, Int.one_mul] at this
        omega
      rw [e1, e2, if_pos ⟨by omega, by omega⟩]; omega
  · obtain ⟨n, rfl⟩ := Int.eq_ofNat_of_zero_le (show 0 ≤ X by omega)
    have h0 : 0 ≤ (n : Int) / (d : Int) := Int.ediv_nonneg (by omega) (by omega)
    rw [if_neg (fun h => absurd h.1 (Int.not_lt.2 h0)), ltI_f (show (0 : Int) ≤ n by omega), Int.natAbs_natCast]
    unfold sK
    simp

/-- The reference rounds as the program does. -/
theorem refR_mag (hr : (sFloor round || (sNear round || sZero round)) = true) {X D : Int} (hD : 1 ≤ D) :
    refR round X D = sK (ltI X 0) (mag (ltI X 0) round X.natAbs D.natAbs) := by
  have hk : Kof round 0 X D = sK (ltI X 0) (mag (ltI X 0) round X.natAbs D.natAbs) := by
    rw [Kof_def]; simp
  cases hf : sFloor round with
  | true =>
    have hz : sZero round = false := not_of hf (by decide)
    have hu : sUp round = false := not_of hf (by decide)
    have hn : sNear round = false := not_of hf (by decide)
    have := Kof_round (round := round) (F := 0) (N := X) hD (near := false) (.inl ⟨rfl, hf⟩)
    rw [← hk, this, roundI_f]
    unfold refR
    rw [hz, hu, hn]
    simp
  | false =>
    cases hn : sNear round with
    | true =>
      have hz : sZero round = false := not_of hn (by decide)
      have hu : sUp round = false := not_of hn (by decide)
      have := Kof_round (round := round) (F := 0) (N := X) hD (near := true) (.inr ⟨rfl, hf, hn⟩)
      rw [← hk, this, refR_near hn hz hu]
      simp
    | false =>
      have hz : sZero round = true := by rw [hf, hn] at hr; simpa using hr
      rw [refR_zero hz hD]
      congr 1
      unfold mag upB
      unfold sFloor at hf
      unfold sNear at hn
      rw [hf, hn]; rfl

theorem refR_bounds {X D : Int} : X / D ≤ refR round X D ∧ refR round X D ≤ X / D + 1 := by
  unfold refR
  cases sZero round <;> cases sUp round <;> cases sNear round <;> simp only [cond_true, cond_false] <;> (try split) <;> omega

/-- .. with a power of two. -/
theorem refR_K (hr : (sFloor round || (sNear round || sZero round)) = true) {N D : Int} {f : Nat} (hD : 1 ≤ D) :
    refR round (N * ((2 ^ f : Nat) : Int)) D = sK (ltI N 0) (mag (ltI N 0) round (N.natAbs * 2 ^ f) D.natAbs) := by
  have p0 : (0 : Int) < ((2 ^ f : Nat) : Int) := by have : 0 < 2 ^ f := Nat.pow_pos (by decide); omega
  have hs : ltI (N * ((2 ^ f : Nat) : Int)) 0 = ltI N 0 := by
    by_cases c : N < 0
    · rw [ltI_t c, ltI_t (Int.mul_neg_of_neg_of_pos c p0)]
    · rw [ltI_f (show 0 ≤ N by omega), ltI_f (Int.mul_nonneg (by omega) (by omega))]
  rw [refR_mag hr hD, hs, Int.natAbs_mul, Int.natAbs_natCast]

theorem refR_turn {X Y T : Int} (hY : 0 < Y) (hz : sZero round = false) (hT : T % 2 = 0) : refR round (X + T * Y) Y = refR round X Y + T := by
  have e1 : (X + T * Y) / Y = X / Y + T := Int.add_mul_ediv_right X T (by omega)
  have e2 : (X + T * Y) % Y = X % Y := Int.add_mul_emod_self_right X T Y
  unfold refR
  rw [hz, e1, e2]
  simp only [cond_false]
  cases sUp round with
  | true => simp only [cond_true]; split <;> omega
  | false =>
    simp only [cond_false]
    cases sNear round with
    | false => simp only [cond_false]
    | true =>
      simp only [cond_true]
      have e3 : (X / Y + T) % 2 = X / Y % 2 := by omega
      rw [e3]
      split <;> omega
end

def floorS : ByteArray := ByteArray.mk #[102, 108, 111, 111, 114]
def upS : ByteArray := ByteArray.mk #[117, 112]

/-- What rounding towards 0 is, by the sign. -/
theorem refR_sides {round : ByteArray} (hz : sZero round = true) {X Y : Int} (hY : 0 < Y) : refR round X Y = refR (if X < 0 then upS else floorS) X Y := by
  have hq : X < 0 → X / Y < 0 := fun h => Int.ediv_neg_of_neg_of_pos h hY
  have hq2 : 0 ≤ X → 0 ≤ X / Y := fun h => Int.ediv_nonneg h (by omega)
  by_cases c : X < 0
  · rw [if_pos c]
    unfold refR
    rw [hz, show sZero upS = false by decide, show sUp upS = true by decide]
    simp only [cond_true, cond_false]
    have := hq c
    split <;> split <;> omega
  · rw [if_neg c]
    unfold refR
    rw [hz, show sZero floorS = false by decide, show sUp floorS = false by decide, show sNear floorS = false by decide]
    simp only [cond_true, cond_false]
    have := hq2 (by omega)
    rw [if_neg (by omega)]
end Go.V

set_option linter.unusedSimpArgs false
set_option linter.unusedVariables false
set_option maxRecDepth 100000
namespace Go.V
open Go.Proofs

/-- The rounding behind whole turns. -/
def sideR (round : ByteArray) (N : Int) : ByteArray := bif sZero round then (bif ltI N 0 then upS else floorS) else round

theorem sideR_zero {round : ByteArray} {N : Int} : sZero (sideR round N) = false := by
  unfold sideR
  cases h : sZero round with
  | true =>
    cases ltI N 0 with
    | true => exact (by decide : sZero upS = false)
    | false => exact (by decide : sZero floorS = false)
  | false => exact h

theorem sideR_eq {round : ByteArray} {N X Y : Int} (hY : 0 < Y) (hX : X < 0 ↔ N < 0) : refR (sideR round N) X Y = refR round X Y := by
  unfold sideR
  cases h : sZero round with
  | false => rfl
  | true =>
    rw [refR_sides h hY, cond_true]
    by_cases c : N < 0
    · rw [ltI_t c, if_pos (hX.2 c)]; rfl
    · rw [ltI_f (by omega), if_neg (fun h => c (hX.1 h))]; rfl

section
variable {kind round over : ByteArray} {I F : Int}

/-- N less whole turns. -/
theorem turns_rest {N D t : Int} (hD : 0 < D) (ht : 0 < t) : 0 ≤ N - N / D / t * t * D ∧ N - N / D / t * t * D < t * D ∧ N / D / t * t ≤ N / D ∧ N / D < N / D / t * t + t := by
  have h1 := Int.mul_ediv_add_emod N D
  have h2 := Int.emod_nonneg N (show D ≠ 0 by omega)
  have h3 := Int.emod_lt_of_pos N hD
  have h4 := Int.mul_ediv_add_emod (N / D) t
  have h5 := Int.emod_nonneg (N / D) (show t ≠ 0 by omega)
  have h6 := Int.emod_lt_of_pos (N / D) ht
  rw [Int.mul_comm t] at h4
  rw [Int.mul_comm D] at h1
  generalize N / D / t = a at *
  generalize hs : N / D % t = s at *
  generalize N % D = r at *
  generalize N / D = q at *
  have e : N - a * t * D = s * D + r := by rw [← h1, ← h4, Int.add_mul]; omega
  have h7 : 0 ≤ s * D := Int.mul_nonneg h5 (by omega)
  have h8 : (s + 1) * D ≤ t * D := Int.mul_le_mul_of_nonneg_right (by omega) (by omega)
  rw [Int.add_mul, Int.one_mul] at h8
  rw [e]
  omega

theorem wrapped68 {N D : Int} (hI : 0 ≤ I) (hF : 0 ≤ F) (hIF : I + F ≤ 30) (n1 : -2305843009213693952 ≤ N) (n2 : N ≤ 2305843009213693952) (d1 : 0 < D) (d2 : D ≤ 1152921504606846976)
    (htd : ((2 ^ (I + 1).toNat : Nat) : Int) * D ≤ 2 * (N.natAbs : Int) + 2 * D) :
    Ev 68 [.pv (.st 23) (fv kind I F round over), .pv (.st 63) (qv (N, D)), .pv (.int .i64) (.int .i64 ((2 ^ (I + F).toNat : Nat) : Int))]
      [.pv (.st 25) (qv (mk (wrapK (2 ^ (I + F).toNat) (refR round (N * ((2 ^ F.toNat : Nat) : Int)) D)) ((2 ^ F.toNat : Nat) : Int)))] := by
  have hT0 : 0 < 2 ^ (I + F).toNat := Nat.pow_pos (by decide)
  have hT : 2 ^ (I + F).toNat ≤ 2 ^ 30 := Nat.pow_le_pow_right (by decide) (by omega)
  have ht0 : 0 < 2 ^ (I + 1).toNat := Nat.pow_pos (by decide)
  have ht : 2 ^ (I + 1).toNat ≤ 2 ^ 31 := Nat.pow_le_pow_right (by decide) (by omega)
  have hP0 : 0 < 2 ^ F.toNat := Nat.pow_pos (by decide)
  have hP : 2 ^ F.toNat ≤ 2 ^ 30 := Nat.pow_le_pow_right (by decide) (by omega)
  have hTP : ((2 ^ (I + 1).toNat : Nat) : Int) * ((2 ^ F.toNat : Nat) : Int) = ((2 * 2 ^ (I + F).toNat : Nat) : Int) := by
    rw [← Int.natCast_mul, ← Nat.pow_add, show (I + 1).toNat + F.toNat = (I + F).toNat + 1 by omega, Nat.pow_succ, Nat.mul_comm]
  have h49a := two49 (k := I + 1) (by omega) (by omega)
  have h49b := two49 (k := F) (by omega) (by omega)
  have hNs : N * ((2 ^ F.toNat : Nat) : Int) < 0 ↔ N < 0 := by
    constructor
    · intro h
      apply Classical.byContradiction; intro hc
      have := Int.mul_nonneg (show 0 ≤ N by omega) (show 0 ≤ ((2 ^ F.toNat : Nat) : Int) by omega)
      omega
    · intro h; exact Int.mul_neg_of_neg_of_pos h (by omega)
  have hside := sideR_eq (round := round) (N := N) (X := N * ((2 ^ F.toNat : Nat) : Int)) d1 hNs
  have hqb : -2305843009213693952 ≤ N / D ∧ N / D ≤ 2305843009213693952 := by
    constructor
    · rw [Int.le_ediv_iff_mul_le d1]
      have : (-2305843009213693952 : Int) * D ≤ -2305843009213693952 * 1 := Int.mul_le_mul_of_nonpos_left (by omega) (by omega)
      omega
    · by_cases hw : 0 ≤ N
      · have := Int.ediv_le_self D hw; omega
      · have := Int.ediv_neg_of_neg_of_pos (show N < 0 by omega) d1; omega
  have hPi : (0 : Int) < ((2 ^ F.toNat : Nat) : Int) ∧ ((2 ^ F.toNat : Nat) : Int) ≤ 1073741824 := by omega
  generalize hPe : ((2 ^ F.toNat : Nat) : Int) = P at *
  have htt : (0 : Int) < ((2 ^ (I + 1).toNat : Nat) : Int) := by omega
  have htt2 : ((2 ^ (I + 1).toNat : Nat) : Int) ≤ 2147483648 := by omega
  generalize hte : ((2 ^ (I + 1).toNat : Nat) : Int) = t at *
  obtain ⟨r0, r1, q0, q1⟩ := turns_rest (N := N) (D := D) (t := t) d1 htt
  have h75a := floor75 (n := N) (d := D) (by omega) (by omega) d1
  have h75b := floor75 (n := N / D) (d := t) (by omega) (by omega) htt
  -- no word runs over
  have wa : IntKind.i64.wrap (N / D / t * t) = N / D / t * t := wrap_id (by omega) (by omega)
  have wb : IntKind.i64.wrap (N / D / t * t * D) = N / D / t * t * D := wrap_id (by omega) (by omega)
  have wc : IntKind.i64.wrap (N - N / D / t * t * D) = N - N / D / t * t * D := wrap_id (by omega) (by omega)
  obtain ⟨z, b, hs, h67⟩ := shift67 (round := sideR round N) (kk := F) (N := N - N / D / t * t * D) (D := D) (by omega) (by omega) (by omega) (by omega) d1 (by omega)
  rw [hPe, show (-F).toNat = 0 by omega] at hs
  simp only [Nat.pow_zero, Int.natCast_one, Int.mul_one] at hs
  have hN : N = (N - N / D / t * t * D) + N / D / t * t * D := by omega
  have hK : refR (sideR round N) (N * P) D = refR (sideR round N) ((N - N / D / t * t * D) * P) D + N / D / t * (t * P) := by
    have e : N * P = (N - N / D / t * t * D) * P + N / D / t * (t * P) * D := by grind
    conv => lhs; rw [e]
    refine refR_turn d1 sideR_zero ?_
    rw [hTP]
    have : N / D / t * ((2 * 2 ^ (I + F).toNat : Nat) : Int) = 2 * (N / D / t * ((2 ^ (I + F).toNat : Nat) : Int)) := by
      rw [Int.natCast_mul]; grind
    rw [this]; omega
  generalize N / D / t = a at *
  generalize hR : N - a * t * D = R0 at *
  have hX0 : 0 ≤ R0 * P := Int.mul_nonneg r0 (by omega)
  have hX1 : R0 * P < t * P * D := by
    have := Int.mul_lt_mul_of_pos_right r1 hPi.1
    rw [Int.mul_right_comm t P D]; exact this
  rw [hTP] at hX1 hK
  have q0' : 0 ≤ R0 * P / D := Int.ediv_nonneg hX0 (by omega)
  have q1' : R0 * P / D < ((2 * 2 ^ (I + F).toNat : Nat) : Int) := by rw [Int.ediv_lt_iff_lt_mul d1]; exact hX1
  have hb : b = true := by
    cases b with
    | true => rfl
    | false => have := hs.2 rfl; omega
  obtain ⟨hz, _, _⟩ := hs.1 hb
  have hzb := refR_bounds (round := sideR round N) (X := R0 * P) (D := D)
  rw [← hz] at hK hzb
  rw [← hside, hK]
  generalize 2 ^ (I + F).toNat = T at *
  -- k
  have hz0 : 0 ≤ z := by omega
  have hz1 : z ≤ 2 * (T : Int) := by omega
  have tm : z.tmod (2 * (T : Int)) = ((z.toNat % (2 * T) : Nat) : Int) := by
    rw [Int.tmod_eq_emod_of_nonneg hz0, Int.natCast_emod, Int.natCast_mul, show ((z.toNat : Nat) : Int) = z by omega]; rfl
  have hkey := turn_key (t := T) (low := z.toNat) (K := z + a * ((2 * T : Nat) : Int)) hT0 (by
    have : ((z.toNat : Nat) : Int) - (z + a * ((2 * T : Nat) : Int)) = ((2 * T : Nat) : Int) * -a := by rw [Int.mul_neg, Int.mul_comm a]; omega
    rw [this]; exact Int.mul_emod_right _ _)
  have hr : z.toNat % (2 * T) < 2 * T := Nat.mod_lt _ (by omega)
  generalize z.toNat % (2 * T) = r at *
  have hw := wrapK_range (K := z + a * ((2 * T : Nat) : Int)) hT0
  have h46 := make46g (n := wrapK T (z + a * ((2 * T : Nat) : Int))) (d := P) (by omega) (by omega) (by omega) (by omega)
  have w2T : IntKind.i64.wrap (2 * (T : Int)) = 2 * (T : Int) := wrap_id (by omega) (by omega)
  have wk : IntKind.i64.wrap ((r : Int) - 2 * (T : Int)) = (r : Int) - 2 * (T : Int) := wrap_id (by omega) (by omega)
  have wi : IntKind.i64.wrap (I + 1) = I + 1 := wrap_id (by omega) (by omega)
  -- the join
  have j9 : Evt fun k => ∀ v6 v7 v11, J68_9 gate1 (EG k) k (.int .i64 T) (.str kind) (.int .i64 I) (.int .i64 F) (.str round) (.str over) v6 v7 (.int .i64 R0) (.int .i64 D) (.str (sideR round N)) v11 =
      some ([.pv (.st 25) (qv (mk (wrapK T (z + a * ((2 * T : Nat) : Int))) P))], []) := by
    obtain ⟨K, hK⟩ := h67.evt.and (h49b.evt.and h46.evt)
    refine ⟨K, fun k hk v6 v7 v11 => ?_⟩
    obtain ⟨h1, h2, h3⟩ := hK k hk
    simp only [qv] at h1 h3 ⊢
    rw [J68_9_eq]
    simp only [PV.cell, PV.cells, List.getD_cons_succ, List.getD_cons_zero, PV.toInt, PV.toStr, PV.toBool, okRes, resPV, Ty.eq, Nat.beq_refl, decide_true, Bool.not_true, Bool.not_false, cond_true, cond_false, h1, tys24, okMany, okTup, Bool.and_true, Bool.true_and, resAt, nth, aoPV, Nat.beq, w2T, tm, J68_13s1_eq, wk]
    rw [eqI_f (show 2 * (T : Int) ≠ 0 by omega), ltI_f (show (0 : Int) ≤ (r : Int) by omega)]
    simp only [cond_false]
    by_cases c : T ≤ r
    · rw [if_pos c] at hkey
      rw [leI_t (show (T : Int) ≤ (r : Int) by omega), show (r : Int) - 2 * (T : Int) = wrapK T (z + a * ((2 * T : Nat) : Int)) by rw [← hkey]; omega]
      simp only [PV.cell, PV.cells, List.getD_cons_succ, List.getD_cons_zero, PV.toInt, PV.toStr, PV.toBool, okRes, resPV, Ty.eq, Nat.beq_refl, decide_true, Bool.not_true, Bool.not_false, cond_true, cond_false, J68_15s2_eq, h2, h3]
    · rw [if_neg c] at hkey
      rw [leI_f (show (r : Int) < (T : Int) by omega), hkey]
      simp only [PV.cell, PV.cells, List.getD_cons_succ, List.getD_cons_zero, PV.toInt, PV.toStr, PV.toBool, okRes, resPV, Ty.eq, Nat.beq_refl, decide_true, Bool.not_true, Bool.not_false, cond_true, cond_false, J68_15s3_eq, h2, h3]
  refine Evt.ev ((h49a.evt.and (h75a.evt.and h75b.evt)).and j9) rfl fun k ⟨⟨h1, h2, h3⟩, h4⟩ => ?_
  simp only [fv, qv] at h4 ⊢
  rw [R68]
  simp only [PV.cell, PV.cells, List.getD_cons_succ, List.getD_cons_zero, PV.toInt, PV.toStr, PV.toBool, okRes, resPV, Ty.eq, Nat.beq_refl, decide_true, Bool.not_true, Bool.not_false, cond_true, cond_false, wi, h1, h2, h3, wa, wb, hR, wc]
  unfold sideR sZero at h4
  cases hzz : (round.data.toList == (ByteArray.mk #[122, 101, 114, 111]).data.toList) with
  | false =>
    rw [hzz] at h4
    simp only [cond_false] at h4 ⊢
    exact h4 _ _ _
  | true =>
    rw [hzz] at h4
    simp only [cond_true] at h4 ⊢
    by_cases c : N < 0
    · rw [ltI_t c] at h4 ⊢
      simp only [cond_true] at h4 ⊢
      exact h4 _ _ _
    · rw [ltI_f (show 0 ≤ N by omega)] at h4 ⊢
      simp only [cond_false] at h4 ⊢
      exact h4 _ _ _
end
end Go.V

set_option linter.unusedSimpArgs false
set_option linter.unusedVariables false
set_option maxRecDepth 100000
namespace Go.V
open Go.Proofs

section
variable {kind round over : ByteArray} {I F : Int}

theorem fix61 {N D : Int} (hv : validB kind round over I F = true) (hk : sFix kind = true) (n1 : -2305843009213693952 ≤ N) (n2 : N ≤ 2305843009213693952) (d1 : 0 < D) (d2 : D ≤ 1152921504606846976) :
    Ev 61 [.pv (.st 23) (fv kind I F round over), .pv (.st 63) (qv (N, D))] [.pv (.st 25) (qv (fixM (ltI N 0) round over I F N.natAbs D.natAbs))] := by
  obtain ⟨hr, hc⟩ := validB_facts hv
  rcases hc with ⟨_, ⟨hI, hF, hIF⟩, ho⟩ | ⟨h, _⟩
  · have hT0 : 0 < 2 ^ (I + F).toNat := Nat.pow_pos (by decide)
    have hT : 2 ^ (I + F).toNat ≤ 2 ^ 30 := Nat.pow_le_pow_right (by decide) (by omega)
    have hP0 : 0 < 2 ^ F.toNat := Nat.pow_pos (by decide)
    have hP : 2 ^ F.toNat ≤ 2 ^ 30 := Nat.pow_le_pow_right (by decide) (by omega)
    have h49a := two49 (k := I + F) (by omega) (by omega)
    have h49b := two49 (k := F) (by omega) (by omega)
    obtain ⟨z, b, hs, h67⟩ := shift67 (round := round) (kk := F) (N := N) (D := D) (by omega) (by omega) (by omega) (by omega) d1 (by omega)
    rw [show (-F).toNat = 0 by omega] at hs
    simp only [Nat.pow_zero, Int.natCast_one, Int.mul_one] at hs
    have hK := refR_K hr (N := N) (D := D) (f := F.toNat) (by omega)
    have hoff := (mag_off (m := ltI N 0) (round := round) (n := N.natAbs * 2 ^ F.toNat) (d := D.natAbs) (by omega)).2
    have hw := fun htd => wrapped68 (kind := kind) (round := round) (over := over) (I := I) (F := F) (N := N) (D := D) hI hF hIF n1 n2 d1 d2 htd
    have hbd := refR_bounds (round := round) (X := N * ((2 ^ F.toNat : Nat) : Int)) (D := D)
    have htP : 2 ^ (I + 1).toNat * 2 ^ F.toNat = 2 * 2 ^ (I + F).toNat := by
      rw [← Nat.pow_add, show (I + 1).toNat + F.toNat = (I + F).toNat + 1 by omega, Nat.pow_succ, Nat.mul_comm]
    unfold fixM
    rw [← hK]
    have htd : ¬ (-((2 ^ (I + F).toNat : Nat) : Int) ≤ refR round (N * ((2 ^ F.toNat : Nat) : Int)) D ∧ refR round (N * ((2 ^ F.toNat : Nat) : Int)) D < ((2 ^ (I + F).toNat : Nat) : Int)) →
        ((2 ^ (I + 1).toNat : Nat) : Int) * D ≤ 2 * (N.natAbs : Int) + 2 * D := by
      intro hout
      rw [hK] at hout
      generalize mag (ltI N 0) round (N.natAbs * 2 ^ F.toNat) D.natAbs = M at *
      have hM : 2 ^ (I + F).toNat ≤ M := by
        apply Classical.byContradiction; intro hc
        apply hout
        unfold sK
        split <;> omega
      have h1 : 2 ^ (I + F).toNat * D.natAbs ≤ M * D.natAbs := Nat.mul_le_mul_right _ hM
      have h2 : 2 ^ (I + 1).toNat * D.natAbs * 2 ^ F.toNat ≤ (2 * N.natAbs + 2 * D.natAbs) * 2 ^ F.toNat := by
        calc 2 ^ (I + 1).toNat * D.natAbs * 2 ^ F.toNat = 2 * (2 ^ (I + F).toNat * D.natAbs) := by rw [Nat.mul_right_comm, htP, Nat.mul_assoc]
          _ ≤ 2 * (N.natAbs * 2 ^ F.toNat + D.natAbs) := by omega
          _ ≤ 2 * (N.natAbs * 2 ^ F.toNat) + 2 * (D.natAbs * 2 ^ F.toNat) := by
            have : D.natAbs * 1 ≤ D.natAbs * 2 ^ F.toNat := Nat.mul_le_mul_left _ hP0
            omega
          _ = _ := by rw [Nat.add_mul, Nat.mul_assoc, Nat.mul_assoc]
      have h3 := Nat.le_of_mul_le_mul_right h2 hP0
      have h4 : ((2 ^ (I + 1).toNat * D.natAbs : Nat) : Int) ≤ ((2 * N.natAbs + 2 * D.natAbs : Nat) : Int) := by exact_mod_cast h3
      rw [Int.natCast_mul, show ((D.natAbs : Nat) : Int) = D by omega] at h4
      omega
    clear hK hoff htP
    unfold ShOk at hs
    generalize refR round (N * ((2 ^ F.toNat : Nat) : Int)) D = K at *
    have wi : IntKind.i64.wrap (I + F) = I + F := wrap_id (by omega) (by omega)
    have wT : IntKind.i64.wrap (0 - ((2 ^ (I + F).toNat : Nat) : Int)) = -((2 ^ (I + F).toNat : Nat) : Int) := by rw [wrap_id (by omega) (by omega)]; omega
    have wT1 : IntKind.i64.wrap (((2 ^ (I + F).toNat : Nat) : Int) - 1) = ((2 ^ (I + F).toNat : Nat) : Int) - 1 := wrap_id (by omega) (by omega)
    by_cases c : -((2 ^ (I + F).toNat : Nat) : Int) ≤ K ∧ K < ((2 ^ (I + F).toNat : Nat) : Int)
    · rw [if_pos c]
      have hb : b = true := by
        cases b with
        | true => rfl
        | false => have := hs.2 rfl; omega
      obtain ⟨hz, _, _⟩ := hs.1 hb
      subst hz
      have h46 := make46g (n := z) (d := ((2 ^ F.toNat : Nat) : Int)) (by omega) (by omega) (by omega) (by omega)
      refine Evt.ev ((h49a.evt.and h49b.evt).and (h67.evt.and h46.evt)) rfl fun k ⟨⟨h1, h2⟩, h3, h4⟩ => ?_
      rw [hb] at h3
      simp only [fv, qv] at h3 h4 ⊢
      rw [R61]
      simp only [PV.cell, PV.cells, List.getD_cons_succ, List.getD_cons_zero, PV.toInt, PV.toStr, PV.toBool, okRes, resPV, Ty.eq, Nat.beq_refl, decide_true, Bool.not_true, Bool.not_false, cond_true, cond_false, wi, h1, h3, tys24, okMany, okTup, Bool.and_true, Bool.true_and, resAt, nth, aoPV, Nat.beq, wT]
      rw [leI_t c.1, ltI_t c.2]
      simp only [PV.cell, PV.cells, List.getD_cons_succ, List.getD_cons_zero, PV.toInt, PV.toStr, PV.toBool, okRes, resPV, Ty.eq, Nat.beq_refl, decide_true, Bool.not_true, Bool.not_false, cond_true, cond_false, J61_4_eq, h2, h4]
    · rw [if_neg c]
      have hw := hw (htd c)
      have h46a := make46g (n := -((2 ^ (I + F).toNat : Nat) : Int)) (d := ((2 ^ F.toNat : Nat) : Int)) (by omega) (by omega) (by omega) (by omega)
      have h46b := make46g (n := ((2 ^ (I + F).toNat : Nat) : Int) - 1) (d := ((2 ^ F.toNat : Nat) : Int)) (by omega) (by omega) (by omega) (by omega)
      refine Evt.ev (((h49a.evt.and h49b.evt).and (h67.evt.and hw.evt)).and ((h46a.evt.and h46b.evt).and none48.evt)) rfl fun k ⟨⟨⟨h1, h2⟩, h3, h4⟩, ⟨h5, h6⟩, h7⟩ => ?_
      simp only [fv, qv] at h3 h4 h5 h6 h7 ⊢
      -- the join
      have j5 : J61_5 gate1 (EG k) k (.str kind) (.int .i64 I) (.int .i64 F) (.str round) (.str over) (.int .i64 N) (.int .i64 D) (.int .i64 0) (.int .i64 0) (.int .i64 ((2 ^ (I + F).toNat : Nat) : Int)) (.int .i64 ((2 ^ (I + F).toNat : Nat) : Int)) =
          some ([.pv (.st 25) (qv (bif sSat over then mk (if ltI N 0 = true then -((2 ^ (I + F).toNat : Nat) : Int) else ((2 ^ (I + F).toNat : Nat) : Int) - 1) ((2 ^ F.toNat : Nat) : Int)
            else bif sWrap over then mk (wrapK (2 ^ (I + F).toNat) K) ((2 ^ F.toNat : Nat) : Int) else (0, 0)))], []) := by
        rw [J61_5_eq]
        unfold sSat sWrap
        simp only [PV.cell, PV.cells, List.getD_cons_succ, List.getD_cons_zero, PV.toInt, PV.toStr, PV.toBool, okRes, resPV, Ty.eq, Nat.beq_refl, decide_true, Bool.not_true, Bool.not_false, cond_true, cond_false, h2, wT, wT1, h4, h5, J61_9_eq, h6, J61_12_eq, h7, qv]
        cases (over.data.toList == (ByteArray.mk #[115, 97, 116]).data.toList) with
        | true => cases ltI N 0 <;> rfl
        | false => cases (over.data.toList == (ByteArray.mk #[119, 114, 97, 112]).data.toList) <;> rfl
      simp only [qv] at j5
      rw [R61]
      simp only [PV.cell, PV.cells, List.getD_cons_succ, List.getD_cons_zero, PV.toInt, PV.toStr, PV.toBool, okRes, resPV, Ty.eq, Nat.beq_refl, decide_true, Bool.not_true, Bool.not_false, cond_true, cond_false, wi, h1, h3, tys24, okMany, okTup, Bool.and_true, Bool.true_and, resAt, nth, aoPV, Nat.beq, wT]
      cases b with
      | false => simp only [cond_false]; exact j5
      | true =>
        obtain ⟨hz, _, _⟩ := hs.1 rfl
        subst hz
        simp only [cond_true]
        by_cases c1 : -((2 ^ (I + F).toNat : Nat) : Int) ≤ z
        · rw [leI_t c1, ltI_f (show ((2 ^ (I + F).toNat : Nat) : Int) ≤ z by omega)]
          simp only [cond_true, cond_false]; exact j5
        · rw [leI_f (by omega)]
          simp only [cond_false]; exact j5
  · rw [h] at hk; cases hk
end
end Go.V

set_option linter.unusedSimpArgs false
set_option linter.unusedVariables false
set_option maxRecDepth 100000
namespace Go.V
open Go.Proofs

theorem below_loop {D : Nat} (hD : D ≤ 1152921504606846976) (v1 : PV) : ∀ (t : Nat), t ≤ 31 → ∀ n : Nat, n ≤ 2305843009213693952 →
    Lv (fun k j => L69_7 gate1 (EG k) k j (.int .i64 (-(t : Int))) v1 (.int .i64 D) (.int .i64 n)) [.pv .bool (.bool (decide (n * 2 ^ t < D)))]
  | 0, _, n, hn => by
    refine Lv.of 0 fun k j _ _ => ?_
    rw [L69_7_succ]
    simp only [PV.toInt, J69_12_eq]
    rw [ltI_f (show (0 : Int) ≤ -((0 : Nat) : Int) by omega), Nat.pow_zero, Nat.mul_one, ltI_nat]; rfl
  | t + 1, ht, n, hn => by
    by_cases c : D ≤ n
    · refine Lv.of 0 fun k j _ _ => ?_
      rw [L69_7_succ]
      simp only [PV.toInt, J69_8_eq]
      have : ¬ n * 2 ^ (t + 1) < D := by
        have h1 : n * 1 ≤ n * 2 ^ (t + 1) := Nat.mul_le_mul_left _ (Nat.pow_pos (by decide))
        omega
      rw [ltI_t (show -(((t + 1 : Nat)) : Int) < 0 by omega), leI_t (by omega), decide_eq_false this]; rfl
    · obtain ⟨K, hK⟩ := below_loop hD v1 t (by omega) (2 * n) (by omega)
      refine Lv.of K fun k j hk hj => ?_
      rw [L69_7_succ]
      simp only [PV.toInt, J69_8_eq, J69_10_eq]
      rw [ltI_t (show -(((t + 1 : Nat)) : Int) < 0 by omega), leI_f (show (n : Int) < D by omega), wrap_id (n := -(((t + 1 : Nat)) : Int) + 1) (by omega) (by omega), wrap_id (n := 2 * (n : Int)) (by omega) (by omega)]
      simp only [cond_true, cond_false]
      have h := hK k j hk hj
      dsimp only at h
      rw [show -(((t + 1 : Nat)) : Int) + 1 = -(t : Int) by omega, show (2 : Int) * (n : Int) = ((2 * n : Nat) : Int) by omega, h, Nat.pow_succ]
      rw [show n * (2 ^ t * 2) = 2 * n * 2 ^ t by rw [Nat.mul_comm (2 ^ t), ← Nat.mul_assoc, Nat.mul_comm n]]

theorem below69 {N D e : Int} (n1 : -2305843009213693952 ≤ N) (n2 : N ≤ 2305843009213693952) (d1 : 0 < D) (d2 : D ≤ 1152921504606846976) (e1 : -31 ≤ e) (e2 : e ≤ 61) :
    Ev 69 [.pv (.st 63) (qv (N, D)), .pv (.int .i64) (.int .i64 e)] [.pv .bool (.bool (belowB N.natAbs D.natAbs e))] := by
  obtain ⟨d, rfl⟩ := Int.eq_ofNat_of_zero_le (show 0 ≤ D by omega)
  rw [Int.natAbs_natCast]
  have hq : N.natAbs / d ≤ N.natAbs := Nat.div_le_self _ _
  have hqb : N.natAbs / d < 9223372036854775807 := Nat.lt_of_le_of_lt hq (by omega)
  -- behind the sign
  have tail : ∀ v1, Evt fun k => (bif eqI (d : Int) 0 then none else bif leI 0 e then
      let c0 := EG k 49 [AO.pv (Ty.int IntKind.i64) (.int .i64 e)]
      bif okRes (Ty.int IntKind.i64) c0 then some ([AO.pv Ty.bool (PV.bool (ltI (IntKind.i64.wrap ((N.natAbs : Int).tdiv (d : Int))) ((resPV c0).toInt)))], []) else none
      else L69_7 gate1 (EG k) k k (.int .i64 e) v1 (.int .i64 d) (.int .i64 N.natAbs)) = (some ([.pv .bool (.bool (belowB N.natAbs d e))], []) : R) := by
    intro v1
    unfold belowB
    by_cases c : 0 ≤ e
    · obtain ⟨K, hK⟩ := (two49 (k := e) c (by omega)).evt
      refine ⟨K, fun k hk => ?_⟩
      have h := hK k hk
      rw [eqI_f (show (d : Int) ≠ 0 by omega), leI_t c, if_pos c]
      simp only [PV.cell, PV.cells, List.getD_cons_succ, List.getD_cons_zero, PV.toInt, PV.toStr, PV.toBool, okRes, resPV, Ty.eq, Nat.beq_refl, decide_true, Bool.not_true, Bool.not_false, cond_true, cond_false, h, tdivN]
      generalize hqd : N.natAbs / d = q at *
      rw [wrap_id (n := (q : Int)) (by omega) (by omega), ltI_nat, ← hqd]
      congr 5
      exact decide_eq_decide.2 (by rw [Nat.div_lt_iff_lt_mul (by omega), Nat.mul_comm])
    · obtain ⟨K, hK⟩ := below_loop (D := d) (by omega) v1 (-e).toNat (by omega) N.natAbs (by omega)
      refine ⟨K, fun k hk => ?_⟩
      rw [eqI_f (show (d : Int) ≠ 0 by omega), leI_f (by omega), if_neg c]
      simp only [cond_false]
      have h := hK k k hk hk
      rw [show -(((-e).toNat : Nat) : Int) = e by omega] at h
      exact h
  by_cases c : N < 0
  · obtain ⟨K, hK⟩ := tail (.int .i64 N)
    refine Ev.of K rfl fun k hk => ?_
    have h := hK k hk
    rw [R69]
    simp only [qv, PV.cell, PV.cells, List.getD_cons_succ, List.getD_cons_zero, PV.toInt, PV.toStr, PV.toBool, okRes, resPV, Ty.eq, Nat.beq_refl, decide_true, Bool.not_true, Bool.not_false, cond_true, cond_false, J69_4_eq]
    rw [ltI_t c, wrap_id (n := 0 - N) (by omega) (by omega), show (0 : Int) - N = ((N.natAbs : Nat) : Int) by omega]
    exact h
  · obtain ⟨K, hK⟩ := tail (.int .i64 N)
    refine Ev.of K rfl fun k hk => ?_
    have h := hK k hk
    rw [R69]
    simp only [qv, PV.cell, PV.cells, List.getD_cons_succ, List.getD_cons_zero, PV.toInt, PV.toStr, PV.toBool, okRes, resPV, Ty.eq, Nat.beq_refl, decide_true, Bool.not_true, Bool.not_false, cond_true, cond_false, J69_4s1_eq]
    rw [ltI_f (show 0 ≤ N by omega)]
    simp only [cond_false]
    rw [show ((N.natAbs : Nat) : Int) = N by omega] at h
    exact h

theorem scaled50 {m x : Int} (m1 : -1073741824 ≤ m) (m2 : m ≤ 1073741824) (x1 : -30 ≤ x) (x2 : x ≤ 30) :
    Ev 50 [.pv (.int .i64) (.int .i64 m), .pv (.int .i64) (.int .i64 x)] [.pv (.st 25) (qv (timesQ m x))] := by
  unfold timesQ
  by_cases hx : 0 ≤ x
  · rw [if_pos hx]
    have hp : 2 ^ x.toNat ≤ 2 ^ 30 := Nat.pow_le_pow_right (by decide) (by omega)
    have hp0 : 0 < 2 ^ x.toNat := Nat.pow_pos (by decide)
    have b := mul_bd m1 m2 (show -1073741824 ≤ ((2 ^ x.toNat : Nat) : Int) by omega) (show ((2 ^ x.toNat : Nat) : Int) ≤ 1073741824 by omega) (by omega) (by omega)
    have h46 := make46g (n := m * ((2 ^ x.toNat : Nat) : Int)) (d := 1) (by omega) (by omega) (by omega) (by omega)
    refine Evt.ev ((two49 (k := x) hx (by omega)).evt.and h46.evt) rfl fun k ⟨h1, h2⟩ => ?_
    simp only [qv] at h2 ⊢
    rw [R50]
    simp only [PV.cell, PV.cells, List.getD_cons_succ, List.getD_cons_zero, PV.toInt, PV.toStr, PV.toBool, okRes, resPV, Ty.eq, Nat.beq_refl, decide_true, Bool.not_true, Bool.not_false, cond_true, cond_false, J50_3_eq, h1]
    rw [ltI_f hx, wrap_id (n := m * ((2 ^ x.toNat : Nat) : Int)) (by omega) (by omega)]
    simp only [PV.cell, PV.cells, List.getD_cons_succ, List.getD_cons_zero, PV.toInt, PV.toStr, PV.toBool, okRes, resPV, Ty.eq, Nat.beq_refl, decide_true, Bool.not_true, Bool.not_false, cond_true, cond_false, h2]
  · rw [if_neg hx]
    have hp : 2 ^ (-x).toNat ≤ 2 ^ 30 := Nat.pow_le_pow_right (by decide) (by omega)
    have hp0 : 0 < 2 ^ (-x).toNat := Nat.pow_pos (by decide)
    have h46 := make46g (n := m) (d := ((2 ^ (-x).toNat : Nat) : Int)) (by omega) (by omega) (by omega) (by omega)
    refine Evt.ev ((two49 (k := -x) (by omega) (by omega)).evt.and h46.evt) rfl fun k ⟨h1, h2⟩ => ?_
    simp only [qv] at h2 ⊢
    rw [R50]
    simp only [PV.cell, PV.cells, List.getD_cons_succ, List.getD_cons_zero, PV.toInt, PV.toStr, PV.toBool, okRes, resPV, Ty.eq, Nat.beq_refl, decide_true, Bool.not_true, Bool.not_false, cond_true, cond_false]
    rw [ltI_t (show x < 0 by omega), show (0 : Int) - x = -x by omega, wrap_id (n := -x) (by omega) (by omega)]
    simp only [PV.cell, PV.cells, List.getD_cons_succ, List.getD_cons_zero, PV.toInt, PV.toStr, PV.toBool, okRes, resPV, Ty.eq, Nat.beq_refl, decide_true, Bool.not_true, Bool.not_false, cond_true, cond_false, h1, h2]

section
variable {kind round over : ByteArray} {i f : Nat}

theorem beyond70 (ok : FlOk i f) (b : Bool) : Ev 70 [.pv (.st 23) (fv kind i f round over), .pv .bool (.bool b)]
    [.pv (.st 25) (qv (bif sSat over then mk (sK b ((2 ^ i - 1) * 2 ^ (2 * f))) ((2 ^ f : Nat) : Int) else (0, 0)))] := by
  obtain ⟨i1, i2, f2, s⟩ := ok
  have hp : 2 ^ i ≤ 2 ^ 24 := Nat.pow_le_pow_right (by decide) (by omega)
  have hp0 : 0 < 2 ^ i := Nat.pow_pos (by decide)
  have h := scaled50 (m := sK b (2 ^ i - 1)) (x := (f : Int)) (by unfold sK; split <;> omega) (by unfold sK; split <;> omega) (by omega) (by omega)
  rw [timesQ_grid (f := f) (by omega), show ((f : Int) + f).toNat = 2 * f by omega, ← sK_mul] at h
  refine Evt.ev (h.evt.and (none48.evt.and (two49 (k := (i : Int)) (by omega) (by omega)).evt)) rfl fun k ⟨h1, h2, h3⟩ => ?_
  rw [Int.toNat_natCast] at h3
  unfold sSat
  simp only [fv, qv] at h1 h2 ⊢
  rw [R70]
  have w1 : IntKind.i64.wrap (((2 ^ i : Nat) : Int) - 1) = ((2 ^ i - 1 : Nat) : Int) := by rw [wrap_id (by omega) (by omega)]; omega
  have w2 : IntKind.i64.wrap (0 - ((2 ^ i - 1 : Nat) : Int)) = -((2 ^ i - 1 : Nat) : Int) := by rw [wrap_id (by omega) (by omega)]; omega
  simp only [PV.cell, PV.cells, List.getD_cons_succ, List.getD_cons_zero, PV.toInt, PV.toStr, PV.toBool, okRes, resPV, Ty.eq, Nat.beq_refl, decide_true, Bool.not_true, Bool.not_false, cond_true, cond_false, J70_3_eq, J70_6_eq, J70_6s1_eq, h3, w1, w2]
  cases (over.data.toList == (ByteArray.mk #[115, 97, 116]).data.toList) with
  | false => simp only [PV.cell, PV.cells, List.getD_cons_succ, List.getD_cons_zero, PV.toInt, PV.toStr, PV.toBool, okRes, resPV, Ty.eq, Nat.beq_refl, decide_true, Bool.not_true, Bool.not_false, cond_true, cond_false, h2]
  | true =>
    cases b with
    | true =>
      rw [show sK true (2 ^ i - 1) = -((2 ^ i - 1 : Nat) : Int) from rfl] at h1
      simp only [PV.cell, PV.cells, List.getD_cons_succ, List.getD_cons_zero, PV.toInt, PV.toStr, PV.toBool, okRes, resPV, Ty.eq, Nat.beq_refl, decide_true, Bool.not_true, Bool.not_false, cond_true, cond_false, h1]
    | false =>
      rw [show sK false (2 ^ i - 1) = ((2 ^ i - 1 : Nat) : Int) from rfl] at h1
      simp only [PV.cell, PV.cells, List.getD_cons_succ, List.getD_cons_zero, PV.toInt, PV.toStr, PV.toBool, okRes, resPV, Ty.eq, Nat.beq_refl, decide_true, Bool.not_true, Bool.not_false, cond_true, cond_false, h1]
end
end Go.V

set_option linter.unusedSimpArgs false
set_option linter.unusedVariables false
set_option maxRecDepth 100000
namespace Go.V
open Go.Proofs

theorem belowB_size {n d i : Nat} {t : Int} (h : belowB n d (i + t) = true) : n * 2 ^ (-t).toNat < d * 2 ^ t.toNat * 2 ^ i := by
  have p0 : ∀ e : Nat, 0 < 2 ^ e := fun e => Nat.pow_pos (by decide)
  unfold belowB at h
  by_cases c : 0 ≤ (i : Int) + t
  · rw [if_pos c] at h
    have h := of_decide_eq_true h
    by_cases ct : 0 ≤ t
    · rw [show (-t).toNat = 0 by omega, Nat.pow_zero, Nat.mul_one, Nat.mul_assoc, ← Nat.pow_add, show t.toNat + i = ((i : Int) + t).toNat by omega]
      exact h
    · rw [show t.toNat = 0 by omega, Nat.pow_zero, Nat.mul_one]
      have h2 := Nat.mul_lt_mul_of_pos_right h (p0 (-t).toNat)
      rw [Nat.mul_assoc d, ← Nat.pow_add, show ((i : Int) + t).toNat + (-t).toNat = i by omega] at h2
      exact h2
  · rw [if_neg c] at h
    have h := of_decide_eq_true h
    rw [show t.toNat = 0 by omega, Nat.pow_zero, Nat.mul_one]
    have h2 := Nat.mul_lt_mul_of_pos_right h (p0 i)
    rw [Nat.mul_assoc n, ← Nat.pow_add, show (-((i : Int) + t)).toNat + i = (-t).toNat by omega] at h2
    exact h2

section
variable {kind round over : ByteArray} {i f : Nat}

theorem ask62_t {call : CallF} {X Y Z : R} {b : Bool} {g : FuncId} {a : List AO} (e : Z = (bif b then
    let c0 := call g a
    bif okRes Ty.bool c0 then
      bif !(resPV c0).toBool then Y else X
    else none else X)) (hb : b = true) (hc : call g a = some ([.pv .bool (.bool true)], [])) : Z = X := ask_t e hb hc

/-- Rounded at an exponent. -/
theorem m67 {N D t : Int} (ok : FlOk i f) (hr : (sFloor round || (sNear round || sZero round)) = true) (n1 : -2305843009213693952 ≤ N) (n2 : N ≤ 2305843009213693952) (d1 : 0 < D) (d2 : D ≤ 1152921504606846976)
    (t1 : -(f : Int) ≤ t) (t2 : t ≤ f) (hb : belowB N.natAbs D.natAbs (i + t) = true) :
    Ev 67 [.pv .str (.str round), .pv (.st 63) (qv (N, D)), .pv (.int .i64) (.int .i64 (-t))] [.pv (.int .i64) (.int .i64 (sK (ltI N 0) (magF (ltI N 0) round N.natAbs D.natAbs t))), .pv .bool (.bool true)] := by
  obtain ⟨i1, i2, f2, s⟩ := ok
  have p0 : ∀ e : Nat, 0 < 2 ^ e := fun e => Nat.pow_pos (by decide)
  obtain ⟨z, b, hs, h67⟩ := shift67 (round := round) (kk := -t) (N := N) (D := D) (by omega) (by omega) (by omega) (by omega) d1 (by omega)
  rw [show (-(-t)).toNat = t.toNat by omega] at hs
  have hsz := belowB_size hb
  have hi : 2 ^ i ≤ 2 ^ 24 := Nat.pow_le_pow_right (by decide) (by omega)
  have hY : 0 < D * ((2 ^ t.toNat : Nat) : Int) := Int.mul_pos d1 (by have := p0 t.toNat; omega)
  have hYe : D * ((2 ^ t.toNat : Nat) : Int) = ((D.natAbs * 2 ^ t.toNat : Nat) : Int) := by rw [Int.natCast_mul, show ((D.natAbs : Nat) : Int) = D by omega]
  have hXs : ltI (N * ((2 ^ (-t).toNat : Nat) : Int)) 0 = ltI N 0 := by
    have p : (0 : Int) < ((2 ^ (-t).toNat : Nat) : Int) := by have := p0 (-t).toNat; omega
    by_cases c : N < 0
    · rw [ltI_t c, ltI_t (Int.mul_neg_of_neg_of_pos c p)]
    · rw [ltI_f (show 0 ≤ N by omega), ltI_f (Int.mul_nonneg (by omega) (by omega))]
  have hXa : (N * ((2 ^ (-t).toNat : Nat) : Int)).natAbs = N.natAbs * 2 ^ (-t).toNat := by rw [Int.natAbs_mul, Int.natAbs_natCast]
  have hYa : (D * ((2 ^ t.toNat : Nat) : Int)).natAbs = D.natAbs * 2 ^ t.toNat := by rw [hYe, Int.natAbs_natCast]
  have hm := refR_mag hr (X := N * ((2 ^ (-t).toNat : Nat) : Int)) (D := D * ((2 ^ t.toNat : Nat) : Int)) (by omega)
  rw [hXs, hXa, hYa] at hm
  unfold magF
  rw [← hm]
  have hbt : b = true := by
    cases b with
    | true => rfl
    | false =>
      exfalso
      have h1 : D.natAbs * 2 ^ t.toNat * 2 ^ i ≤ D.natAbs * 2 ^ t.toNat * 2 ^ 24 := Nat.mul_le_mul_left _ hi
      rcases hs.2 rfl with h | h
      · have : N * ((2 ^ (-t).toNat : Nat) : Int) / (D * ((2 ^ t.toNat : Nat) : Int)) < 16777216 := by
          rw [Int.ediv_lt_iff_lt_mul hY, hYe]; omega
        omega
      · have : -16777216 ≤ N * ((2 ^ (-t).toNat : Nat) : Int) / (D * ((2 ^ t.toNat : Nat) : Int)) := by
          rw [Int.le_ediv_iff_mul_le hY, hYe]; omega
        omega
  obtain ⟨hz, _, _⟩ := hs.1 hbt
  rw [← hz, ← hbt]
  exact h67

theorem float62 {N D : Int} (ok : FlOk i f) (hv : validB kind round over i f = true) (hk : sFix kind = false) (n1 : -2305843009213693952 ≤ N) (n2 : N ≤ 2305843009213693952) (d1 : 0 < D) (d2 : D ≤ 1152921504606846976) :
    Ev 62 [.pv (.st 23) (fv kind i f round over), .pv (.st 63) (qv (N, D))] [.pv (.st 25) (qv (floatR (ltI N 0) round over i f N.natAbs D.natAbs))] := by
  have okk := ok
  obtain ⟨hr, hc⟩ := validB_facts hv
  have hover : over = satS ∨ over = noneS := by
    rcases hc with ⟨h, _⟩ | ⟨_, _, h⟩
    · rw [h] at hk; cases hk
    · exact h
  have hsn : ∀ x : Int × Int, (bif sSat over then x else (0, 0)) = (bif sNone over then (0, 0) else x) := by
    intro x
    rcases hover with h | h
    · rw [h, sSat_sat, show sNone satS = false by decide]; rfl
    · rw [h, sSat_none, sNone_none]; rfl
  obtain ⟨i1, i2, f2, s⟩ := ok
  have hp : 2 ^ i ≤ 2 ^ 24 := Nat.pow_le_pow_right (by decide) (by omega)
  have hp0 : 0 < 2 ^ i := Nat.pow_pos (by decide)
  have q0 : 0 < 2 ^ (i + 2 * f) := Nat.pow_pos (by decide)
  have hd : 0 < D.natAbs := by omega
  by_cases hn : N = 0
  · subst hn
    have e : floatR (ltI 0 0) round over i f (0 : Int).natAbs D.natAbs = (0, 1) := by
      unfold floatR
      rw [show (0 : Int).natAbs = 0 from rfl, WF_zero hd, if_pos q0, sK_zero, mk_zero]
    rw [e]
    have hw := whole17 (t := 0) (by omega) (by omega)
    rw [show cut 0 1 = (0, 1) by decide] at hw
    refine Evt.ev hw.evt rfl fun k h => ?_
    simp only [fv, qv] at h ⊢
    rw [R62]
    simp only [PV.cell, PV.cells, List.getD_cons_succ, List.getD_cons_zero, PV.toInt, PV.toStr, PV.toBool, okRes, resPV, Ty.eq, Nat.beq_refl, decide_true, Bool.not_true, Bool.not_false, cond_true, cond_false, h]
    rfl
  · have hb : ∀ t, -(f : Int) ≤ t → t ≤ f → ∃ K, ∀ k, K ≤ k → EG k 69 [AO.pv (Ty.st 63) (PV.agg [.int .i64 N, .int .i64 D]), AO.pv (Ty.int IntKind.i64) (PV.int IntKind.i64 (IntKind.i64.wrap ((PV.int .i64 (i : Int)).toInt + (PV.int .i64 t).toInt)))] = some ([.pv .bool (.bool (belowB N.natAbs D.natAbs (i + t)))], []) := by
      intro t h1 h2
      obtain ⟨K1, e1⟩ := below69 (N := N) (D := D) (e := i + t) n1 n2 d1 d2 (by omega) (by omega)
      refine ⟨K1, fun k hk => ?_⟩
      simp only [PV.toInt]
      rw [wrap_id (n := (i : Int) + t) (by omega) (by omega)]
      exact e1 k hk
    obtain ⟨t, t1, t2, t3, t4, K1, h1⟩ := loop_abs (F := f) (fun k n' t => L62_4 gate1 (EG k) k n' (.str kind) (.int .i64 i) (.int .i64 f) (.str round) (.str over) (.int .i64 N) (.int .i64 D) (.int .i64 0) (.int .i64 0) (.int .i64 t))
      (fun k t => J62_6 gate1 (EG k) k (.str kind) (.int .i64 i) (.int .i64 f) (.str round) (.str over) (.int .i64 N) (.int .i64 D) (.int .i64 0) (.int .i64 0) (.int .i64 t))
      (fun t => belowB N.natAbs D.natAbs (i + t))
      (fun k j t h => by
        have e := L62_4_succ gate1 (EG k) k j (.str kind) (.int .i64 i) (.int .i64 f) (.str round) (.str over) (.int .i64 N) (.int .i64 D) (.int .i64 0) (.int .i64 0) (.int .i64 t)
        simp only [PV.toInt] at e
        rw [leI_f h] at e
        simp only [cond_false] at e
        exact e)
      (fun t h1 h2 hp => by
        obtain ⟨K, e⟩ := hb t h1 h2
        rw [show belowB N.natAbs D.natAbs (i + t) = true from hp] at e
        exact ⟨K, fun k j hk => ask_t (L62_4_succ gate1 (EG k) k j (.str kind) (.int .i64 i) (.int .i64 f) (.str round) (.str over) (.int .i64 N) (.int .i64 D) (.int .i64 0) (.int .i64 0) (.int .i64 t)) (leI_t h2) (e k hk)⟩)
      (fun t h1 h2 hp => by
        obtain ⟨K, e⟩ := hb t h1 h2
        rw [show belowB N.natAbs D.natAbs (i + t) = false from hp] at e
        refine ⟨K, fun k j hk => ?_⟩
        have := (ask_f (L62_4_succ gate1 (EG k) k j (.str kind) (.int .i64 i) (.int .i64 f) (.str round) (.str over) (.int .i64 N) (.int .i64 D) (.int .i64 0) (.int .i64 0) (.int .i64 t)) (leI_t h2) (e k hk)).trans (J62_5_eq _ _ _ _ _ _ _ _ _ _ _ _ _)
        rw [show IntKind.i64.wrap ((PV.int .i64 t).toInt + 1) = t + 1 from wrap_id (n := t + 1) (by omega) (by omega)] at this
        exact this)
      (f + f + 1) (-(f : Int)) (by omega) (Int.le_refl _)
    have hW := WF_of (m := ltI N 0) (round := round) hd t1 t2 t3 t4
    have w2 : IntKind.i64.wrap (0 - ((2 ^ i : Nat) : Int)) = -((2 ^ i : Nat) : Int) := by rw [wrap_id (by omega) (by omega)]; omega
    have h49 := two49 (k := (i : Int)) (by omega) (by omega)
    rw [Int.toNat_natCast] at h49
    have hbe := beyond70 (kind := kind) (round := round) (over := over) okk (ltI N 0)
    rw [hsn] at hbe
    suffices hJ : Evt fun k => J62_6 gate1 (EG k) k (.str kind) (.int .i64 i) (.int .i64 f) (.str round) (.str over) (.int .i64 N) (.int .i64 D) (.int .i64 0) (.int .i64 0) (.int .i64 t) = some ([.pv (.st 25) (qv (floatR (ltI N 0) round over i f N.natAbs D.natAbs))], []) by
      obtain ⟨K2, h2⟩ := hJ
      refine Ev.of (K1 + K2) rfl fun k hkk => ?_
      have h1 := h1 k k (by omega) (by omega)
      have h2 := h2 k (by omega)
      simp only [fv, qv] at h1 h2 ⊢
      rw [R62]
      simp only [PV.cell, PV.cells, List.getD_cons_succ, List.getD_cons_zero, PV.toInt, PV.toStr, PV.toBool, okRes, resPV, Ty.eq, Nat.beq_refl, decide_true, Bool.not_true, Bool.not_false, cond_true, cond_false]
      rw [eqI_f hn, J62_3_eq]
      simp only [PV.cell, PV.cells, List.getD_cons_succ, List.getD_cons_zero, PV.toInt, PV.toStr, PV.toBool, okRes, resPV, Ty.eq, Nat.beq_refl, decide_true, Bool.not_true, Bool.not_false, cond_true, cond_false]
      rw [wrap_id (by omega) (by omega), Int.zero_sub, h1, h2]
    by_cases c : t ≤ f
    · rw [if_pos c] at hW
      have hM : magF (ltI N 0) round N.natAbs D.natAbs t ≤ 2 ^ i := by
        rw [magF_grid (f := f) hd (s := (t + f).toNat) (by omega)]
        refine mag_top hd ?_
        have := t4 c
        rw [belowB_grid (f := f) (s := (t + f).toNat) (by omega)] at this
        exact of_decide_eq_true this
      have hm := m67 (round := round) okk hr n1 n2 d1 d2 t1 c (t4 c)
      generalize magF (ltI N 0) round N.natAbs D.natAbs t = M at *
      generalize hms : ltI N 0 = m at *
      have hx50 : ∀ {a t : Int}, -1073741824 ≤ a → a ≤ 1073741824 → -(f : Int) ≤ t → t ≤ f → Ev 50 [.pv (.int .i64) (.int .i64 a), .pv (.int .i64) (.int .i64 t)] [.pv (.st 25) (qv (mk (a * ((2 ^ (t + f).toNat : Nat) : Int)) ((2 ^ f : Nat) : Int)))] := by
        intro a t a1 a2 t1 t2
        have := scaled50 a1 a2 (x := t) (by omega) (by omega)
        rw [timesQ_grid (f := f) t1] at this
        exact this
      by_cases hMt : M = 2 ^ i
      · by_cases ctf : t = f
        · -- beyond
          obtain ⟨K2, h2⟩ := (hm.evt.and h49.evt).and hbe.evt
          refine ⟨K2, fun k hkk => ?_⟩
          obtain ⟨⟨h3, h4⟩, h5⟩ := h2 k hkk
          have hx : floatR m round over i f N.natAbs D.natAbs = bif sNone over then (0, 0) else mk (sK m ((2 ^ i - 1) * 2 ^ (2 * f))) ((2 ^ f : Nat) : Int) := by
            unfold floatR
            rw [hW, hMt, ← Nat.pow_add, if_neg (by rw [show i + (t + f).toNat = i + 2 * f by omega]; omega)]
          rw [← hx] at h5
          simp only [fv, qv] at h3 h5 ⊢
          have e10 : ∀ v10 v11 v12, J62_10 gate1 (EG k) k (.str kind) (.int .i64 i) (.int .i64 f) (.str round) (.str over) (.int .i64 N) (.int .i64 D) (.int .i64 0) (.int .i64 0) (.int .i64 t) v10 v11 v12 = some ([.pv (.st 25) (qv (floatR m round over i f N.natAbs D.natAbs))], []) := by
            intro v10 v11 v12
            rw [J62_10_eq]
            simp only [PV.cell, PV.cells, List.getD_cons_succ, List.getD_cons_zero, PV.toInt, PV.toStr, PV.toBool, okRes, resPV, Ty.eq, Nat.beq_refl, decide_true, Bool.not_true, Bool.not_false, cond_true, cond_false]
            rw [eqI_t ctf, hms]
            simp only [PV.cell, PV.cells, List.getD_cons_succ, List.getD_cons_zero, PV.toInt, PV.toStr, PV.toBool, okRes, resPV, Ty.eq, Nat.beq_refl, decide_true, Bool.not_true, Bool.not_false, cond_true, cond_false, h5, qv]
          simp only [qv] at e10
          rw [J62_6_eq]
          simp only [PV.cell, PV.cells, List.getD_cons_succ, List.getD_cons_zero, PV.toInt, PV.toStr, PV.toBool, okRes, resPV, Ty.eq, Nat.beq_refl, decide_true, Bool.not_true, Bool.not_false, cond_true, cond_false, J62_8_eq]
          rw [ltI_f (show t ≤ (f : Int) by omega), wrap_id (n := 0 - t) (by omega) (by omega), Int.zero_sub]
          simp only [PV.cell, PV.cells, List.getD_cons_succ, List.getD_cons_zero, PV.toInt, PV.toStr, PV.toBool, okRes, resPV, Ty.eq, Nat.beq_refl, decide_true, Bool.not_true, Bool.not_false, cond_true, cond_false, h3, h4, tys24, okMany, okTup, Bool.and_true, Bool.true_and, resAt, nth, aoPV, Nat.beq, w2, e10]
          cases m with
          | false => rw [eqI_t (show sK false M = ((2 ^ i : Nat) : Int) by rw [hMt]; rfl)]; rfl
          | true => rw [eqI_f (show sK true M ≠ ((2 ^ i : Nat) : Int) by unfold sK; rw [if_pos rfl]; omega), eqI_t (show sK true M = -((2 ^ i : Nat) : Int) by unfold sK; rw [if_pos rfl, hMt])]; rfl
        · have e2 : (2 ^ i : Nat) = 2 ^ (i - 1) * 2 := by rw [← Nat.pow_succ]; congr 1; omega
          have w3 : IntKind.i64.wrap ((sK m M).tdiv 2) = sK m (2 ^ (i - 1)) := by
            rw [hMt, e2, sK_mul]
            rw [show ((2 : Nat) : Int) = 2 from rfl, Int.mul_tdiv_cancel _ (by decide)]
            refine wrap_id ?_ ?_ <;> · unfold sK; split <;> omega
          obtain ⟨K2, h2⟩ := (hm.evt.and h49.evt).and (hx50 (a := sK m (2 ^ (i - 1))) (t := t + 1) (by unfold sK; split <;> omega) (by unfold sK; split <;> omega) (by omega) (by omega)).evt
          refine ⟨K2, fun k hkk => ?_⟩
          obtain ⟨⟨h3, h4⟩, h5⟩ := h2 k hkk
          have hx : mk (sK m (2 ^ (i - 1)) * ((2 ^ (t + 1 + f).toNat : Nat) : Int)) ((2 ^ f : Nat) : Int) = floatR m round over i f N.natAbs D.natAbs := by
            unfold floatR
            rw [hW, hMt, ← Nat.pow_add, if_pos (Nat.pow_lt_pow_right (by decide) (by omega)), ← sK_mul, ← Nat.pow_add, show i - 1 + (t + 1 + (f : Int)).toNat = i + (t + f).toNat by omega]
          rw [hx] at h5
          simp only [fv, qv] at h3 h5 ⊢
          have e10 : J62_10 gate1 (EG k) k (.str kind) (.int .i64 i) (.int .i64 f) (.str round) (.str over) (.int .i64 N) (.int .i64 D) (.int .i64 0) (.int .i64 0) (.int .i64 t) (.int .i64 (sK m M)) (.int .i64 (sK m M)) (.bool true) = some ([.pv (.st 25) (qv (floatR m round over i f N.natAbs D.natAbs))], []) := by
            rw [J62_10_eq]
            simp only [PV.cell, PV.cells, List.getD_cons_succ, List.getD_cons_zero, PV.toInt, PV.toStr, PV.toBool, okRes, resPV, Ty.eq, Nat.beq_refl, decide_true, Bool.not_true, Bool.not_false, cond_true, cond_false, J62_12_eq, J62_14_eq]
            rw [eqI_f ctf, w3, wrap_id (n := t + 1) (by omega) (by omega)]
            simp only [PV.cell, PV.cells, List.getD_cons_succ, List.getD_cons_zero, PV.toInt, PV.toStr, PV.toBool, okRes, resPV, Ty.eq, Nat.beq_refl, decide_true, Bool.not_true, Bool.not_false, cond_true, cond_false, h5, qv]
          simp only [qv] at e10
          rw [J62_6_eq]
          simp only [PV.cell, PV.cells, List.getD_cons_succ, List.getD_cons_zero, PV.toInt, PV.toStr, PV.toBool, okRes, resPV, Ty.eq, Nat.beq_refl, decide_true, Bool.not_true, Bool.not_false, cond_true, cond_false, J62_8_eq]
          rw [ltI_f (show t ≤ (f : Int) by omega), wrap_id (n := 0 - t) (by omega) (by omega), Int.zero_sub]
          simp only [PV.cell, PV.cells, List.getD_cons_succ, List.getD_cons_zero, PV.toInt, PV.toStr, PV.toBool, okRes, resPV, Ty.eq, Nat.beq_refl, decide_true, Bool.not_true, Bool.not_false, cond_true, cond_false, h3, h4, tys24, okMany, okTup, Bool.and_true, Bool.true_and, resAt, nth, aoPV, Nat.beq, w2, e10]
          cases m with
          | false => rw [eqI_t (show sK false M = ((2 ^ i : Nat) : Int) by rw [hMt]; rfl)]; rfl
          | true => rw [eqI_f (show sK true M ≠ ((2 ^ i : Nat) : Int) by unfold sK; rw [if_pos rfl]; omega), eqI_t (show sK true M = -((2 ^ i : Nat) : Int) by unfold sK; rw [if_pos rfl, hMt])]; rfl
      · obtain ⟨K2, h2⟩ := (hm.evt.and h49.evt).and (hx50 (a := sK m M) (t := t) (by unfold sK; split <;> omega) (by unfold sK; split <;> omega) t1 c).evt
        refine ⟨K2, fun k hkk => ?_⟩
        obtain ⟨⟨h3, h4⟩, h5⟩ := h2 k hkk
        have hx : mk (sK m M * ((2 ^ (t + f).toNat : Nat) : Int)) ((2 ^ f : Nat) : Int) = floatR m round over i f N.natAbs D.natAbs := by
          unfold floatR
          have hlt : M * 2 ^ (t + f).toNat < 2 ^ (i + 2 * f) := by
            rw [Nat.pow_add]
            have h1 : 2 ^ (t + f).toNat ≤ 2 ^ (2 * f) := Nat.pow_le_pow_right (by decide) (by omega)
            exact Nat.lt_of_lt_of_le (Nat.mul_lt_mul_of_pos_right (show M < 2 ^ i by omega) (Nat.pow_pos (by decide))) (Nat.mul_le_mul_left _ h1)
          rw [hW, if_pos hlt, sK_mul]
        rw [hx] at h5
        simp only [fv, qv] at h3 h5 ⊢
        rw [J62_6_eq]
        simp only [PV.cell, PV.cells, List.getD_cons_succ, List.getD_cons_zero, PV.toInt, PV.toStr, PV.toBool, okRes, resPV, Ty.eq, Nat.beq_refl, decide_true, Bool.not_true, Bool.not_false, cond_true, cond_false, J62_8_eq]
        rw [ltI_f (show t ≤ (f : Int) by omega), wrap_id (n := 0 - t) (by omega) (by omega), Int.zero_sub]
        simp only [PV.cell, PV.cells, List.getD_cons_succ, List.getD_cons_zero, PV.toInt, PV.toStr, PV.toBool, okRes, resPV, Ty.eq, Nat.beq_refl, decide_true, Bool.not_true, Bool.not_false, cond_true, cond_false, h3, h4, tys24, okMany, okTup, Bool.and_true, Bool.true_and, resAt, nth, aoPV, Nat.beq, w2]
        rw [eqI_f (show sK m M ≠ ((2 ^ i : Nat) : Int) by unfold sK; split <;> omega), eqI_f (show sK m M ≠ -((2 ^ i : Nat) : Int) by unfold sK; split <;> omega)]
        simp only [PV.cell, PV.cells, List.getD_cons_succ, List.getD_cons_zero, PV.toInt, PV.toStr, PV.toBool, okRes, resPV, Ty.eq, Nat.beq_refl, decide_true, Bool.not_true, Bool.not_false, cond_true, cond_false, J62_14s1_eq, h5]
    · rw [if_neg c] at hW
      obtain ⟨K2, h2⟩ := hbe.evt
      refine ⟨K2, fun k hkk => ?_⟩
      have h2 := h2 k hkk
      simp only [fv, qv] at h2 ⊢
      rw [J62_6_eq]
      simp only [PV.cell, PV.cells, List.getD_cons_succ, List.getD_cons_zero, PV.toInt, PV.toStr, PV.toBool, okRes, resPV, Ty.eq, Nat.beq_refl, decide_true, Bool.not_true, Bool.not_false, cond_true, cond_false]
      rw [ltI_t (show (f : Int) < t by omega)]
      unfold floatR
      rw [hW, if_neg (by omega)]
      simp only [PV.cell, PV.cells, List.getD_cons_succ, List.getD_cons_zero, PV.toInt, PV.toStr, PV.toBool, okRes, resPV, Ty.eq, Nat.beq_refl, decide_true, Bool.not_true, Bool.not_false, cond_true, cond_false, h2]
end
end Go.V
