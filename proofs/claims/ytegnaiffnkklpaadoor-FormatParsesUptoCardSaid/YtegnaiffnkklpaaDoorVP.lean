/- What Valid and Text of a format compute, the program's and the reference's, for any fields. Conditions: none. -/
import Derived.Test.YtegnaiffnkklpaaDoorVE
import Derived.Test.YtegnaiffnkklpaaDoorVG
set_option maxRecDepth 100000
set_option linter.unusedSimpArgs false
set_option linter.unusedVariables false
namespace Go.V
open Go.Proofs

/-- The calls that are told: math/bits.Add64, and (by 'q') quant.Parse. -/
def baseQ (q : CallF) : CallF := fun f az => bif Nat.beq f 13 then q f az else add64B 63 f az
noncomputable def EG (q : CallF) (k : Nat) : CallF := evG Tryd.prog H0 (baseQ q) k
/-- With enough fuel function f gives r. -/
def Ev (q : CallF) (f : FuncId) (az r : List AO) : Prop := ∃ K, ∀ k, K ≤ k → EG q k f az = some (r, [])

theorem EG_succ (q : CallF) (k : Nat) (f : FuncId) (az : List AO) (h : (Nat.beq f 63 || Nat.beq f 13) = false) : EG q (k + 1) f az = evStep Tryd.prog H0 (EG q k) k f az := by
  simp only [Bool.or_eq_false_iff] at h
  unfold EG
  simp only [evG, baseQ, add64B, h.1, h.2, cond_false]

def Evt (p : Nat → Prop) : Prop := ∃ K, ∀ k, K ≤ k → p k
theorem Evt.and {p q : Nat → Prop} : Evt p → Evt q → Evt (fun k => p k ∧ q k)
  | ⟨K, h⟩, ⟨L, g⟩ => ⟨K + L, fun k hk => ⟨h k (by omega), g k (by omega)⟩⟩
theorem Evt.true : Evt (fun _ => True) := ⟨0, fun _ _ => trivial⟩
theorem Ev.evt {q : CallF} {f : FuncId} {az r : List AO} (h : Ev q f az r) : Evt (fun k => EG q k f az = some (r, [])) := h
theorem Evt.ev {q : CallF} {f : FuncId} {az r : List AO} {p : Nat → Prop} (h : Evt p) (hf : (Nat.beq f 63 || Nat.beq f 13) = false) (g : ∀ k, p k → evStep Tryd.prog H0 (EG q k) k f az = some (r, [])) : Ev q f az r := by
  obtain ⟨K, h⟩ := h
  refine ⟨K + 1, fun k hk => ?_⟩
  obtain ⟨k, rfl⟩ : ∃ m, k = m + 1 := ⟨k - 1, by omega⟩
  rw [EG_succ q k f az hf]
  exact g k (h k (by omega))
theorem Ev.of {q : CallF} {f : FuncId} {az r : List AO} (hf : (Nat.beq f 63 || Nat.beq f 13) = false) (g : ∀ k, evStep Tryd.prog H0 (EG q k) k f az = some (r, [])) : Ev q f az r :=
  Evt.true.ev hf fun k _ => g k

theorem awake_at (q : CallF) (k : Nat) : EG q (k + 60) 12 [] = some ([.pv .bool (.bool true)], []) := by kernel_rfl
theorem awake_ev (q : CallF) : Ev q 12 [] [.pv .bool (.bool true)] := ⟨60, fun k hk => by
  obtain ⟨j, rfl⟩ : ∃ j, k = j + 60 := ⟨k - 60, by omega⟩
  exact awake_at q j⟩

/-- The text of a number from 0 to 99. -/
def itoaN (i : Nat) : ByteArray := if i < 10 then ⟨#[UInt8.ofNat (48 + i)]⟩ else ⟨#[UInt8.ofNat (48 + i / 10), UInt8.ofNat (48 + i % 10)]⟩
def itoaP (i : Int) : ByteArray := itoaN i.toNat
theorem itoa_at (q : CallF) (k : Nat) : ∀ i, i ≤ 30 → EG q (k + 20) 32 [.pv (.int .i64) (.int .i64 (Int.ofNat i))] = some ([.pv .str (.str (itoaN i))], [])
  | 0, _ => by kernel_rfl
  | 1, _ => by kernel_rfl
  | 2, _ => by kernel_rfl
  | 3, _ => by kernel_rfl
  | 4, _ => by kernel_rfl
  | 5, _ => by kernel_rfl
  | 6, _ => by kernel_rfl
  | 7, _ => by kernel_rfl
  | 8, _ => by kernel_rfl
  | 9, _ => by kernel_rfl
  | 10, _ => by kernel_rfl
  | 11, _ => by kernel_rfl
  | 12, _ => by kernel_rfl
  | 13, _ => by kernel_rfl
  | 14, _ => by kernel_rfl
  | 15, _ => by kernel_rfl
  | 16, _ => by kernel_rfl
  | 17, _ => by kernel_rfl
  | 18, _ => by kernel_rfl
  | 19, _ => by kernel_rfl
  | 20, _ => by kernel_rfl
  | 21, _ => by kernel_rfl
  | 22, _ => by kernel_rfl
  | 23, _ => by kernel_rfl
  | 24, _ => by kernel_rfl
  | 25, _ => by kernel_rfl
  | 26, _ => by kernel_rfl
  | 27, _ => by kernel_rfl
  | 28, _ => by kernel_rfl
  | 29, _ => by kernel_rfl
  | 30, _ => by kernel_rfl
  | i + 31, h => by omega
theorem itoa_ev (q : CallF) {i : Int} (h0 : 0 ≤ i) (h : i ≤ 30) : Ev q 32 [.pv (.int .i64) (.int .i64 i)] [.pv .str (.str (itoaP i))] := ⟨20, fun k hk => by
  obtain ⟨j, rfl⟩ : ∃ j, k = j + 20 := ⟨k - 20, by omega⟩
  obtain ⟨n, rfl⟩ : ∃ n : Nat, i = Int.ofNat n := ⟨i.toNat, by simp; omega⟩
  exact itoa_at q j n (by simp at h; omega)⟩

def fv (kind : ByteArray) (I F : Int) (round over : ByteArray) : PV := .agg [.str kind, .int .i64 I, .int .i64 F, .str round, .str over]
def b13 (I F : Int) : Bool := leI 0 I && (leI 0 F && (leI I 30 && (leI F 30 && leI (IntKind.i64.wrap (I + F)) 30)))
def satS : ByteArray := ByteArray.mk #[115, 97, 116]
def noneS : ByteArray := ByteArray.mk #[110, 111, 110, 101]
def wrapS : ByteArray := ByteArray.mk #[119, 114, 97, 112]
theorem wrap_id {n : Int} (h0 : -9223372036854775808 ≤ n) (h1 : n < 9223372036854775808) : IntKind.i64.wrap n = n := by
  simp [IntKind.wrap, IntKind.signed, IntKind.bits]
  split <;> omega
section
variable {kind round over : ByteArray} {I F : Int}
def sFix (s : ByteArray) : Bool := s.data.toList == (ByteArray.mk #[102, 105, 120]).data.toList
def sFloat (s : ByteArray) : Bool := s.data.toList == (ByteArray.mk #[102, 108, 111, 97, 116]).data.toList
def sFloor (s : ByteArray) : Bool := s.data.toList == (ByteArray.mk #[102, 108, 111, 111, 114]).data.toList
def sNear (s : ByteArray) : Bool := s.data.toList == (ByteArray.mk #[110, 101, 97, 114]).data.toList
def sZero (s : ByteArray) : Bool := s.data.toList == (ByteArray.mk #[122, 101, 114, 111]).data.toList
def sSat (s : ByteArray) : Bool := s.data.toList == (ByteArray.mk #[115, 97, 116]).data.toList
def sNone (s : ByteArray) : Bool := s.data.toList == (ByteArray.mk #[110, 111, 110, 101]).data.toList
def sWrap (s : ByteArray) : Bool := s.data.toList == (ByteArray.mk #[119, 114, 97, 112]).data.toList

def bFl (I F : Int) : Bool := leI 1 I && (leI I 24 && (leI 0 F && (leI F 20 && leI (IntKind.i64.wrap (I + F)) 30)))
def bKind (kind : ByteArray) (I F : Int) : Bool := bif sFix kind then b13 I F else bif sFloat kind then bFl I F else false
/-- Is a format one? -/
def validB (kind round over : ByteArray) (I F : Int) : Bool :=
  bif (sFloor round || (sNear round || sZero round)) then
    (bif sSat over then bKind kind I F else bif sNone over then bKind kind I F else bif sWrap over then (bif !sFix kind then false else bKind kind I F) else false)
  else false

theorem j513 (call : CallF) (k : Nat) (v3 v4 : PV) : J5_13 gate1 call k (.str kind) (.int .i64 I) (.int .i64 F) v3 v4 = some ([.pv .bool (.bool (bKind kind I F))], []) := by
  rw [J5_13_eq, J5_18_eq]
  simp only [PV.toStr, PV.toInt, bKind, b13, bFl, sFix, sFloat]
  generalize (kind.data.toList == (ByteArray.mk #[102, 105, 120]).data.toList) = A
  generalize (kind.data.toList == (ByteArray.mk #[102, 108, 111, 97, 116]).data.toList) = B
  cases A
  · cases B
    · rfl
    · simp only [cond_true, cond_false]
      cases leI 1 I <;> cases leI I 24 <;> cases leI 0 F <;> cases leI F 20 <;> rfl
  · simp only [cond_true]
    cases leI 0 I <;> cases leI 0 F <;> cases leI I 30 <;> cases leI F 30 <;> rfl

theorem j56 (call : CallF) (k : Nat) (v3 : PV) : J5_6 gate1 call k (.str kind) (.int .i64 I) (.int .i64 F) v3 (.str over) =
    some ([.pv .bool (.bool (bif sSat over then bKind kind I F else bif sNone over then bKind kind I F else bif sWrap over then (bif !sFix kind then false else bKind kind I F) else false))], []) := by
  rw [J5_6_eq, J5_10_eq, j513]
  simp only [PV.toStr, sSat, sNone, sWrap, sFix]
  generalize (over.data.toList == (ByteArray.mk #[115, 97, 116]).data.toList) = A
  generalize (over.data.toList == (ByteArray.mk #[110, 111, 110, 101]).data.toList) = B
  generalize (over.data.toList == (ByteArray.mk #[119, 114, 97, 112]).data.toList) = C
  generalize (kind.data.toList == (ByteArray.mk #[102, 105, 120]).data.toList) = X
  cases A <;> cases B <;> cases C <;> cases X <;> rfl

theorem valid5 (q : CallF) (kind round over : ByteArray) (I F : Int) : Ev q 5 [.pv (.st 23) (fv kind I F round over)] [.pv .bool (.bool (validB kind round over I F))] := by
  refine Ev.of rfl fun k => ?_
  rw [R5]
  simp only [fv, PV.cell, PV.cells, List.getD_cons_succ, List.getD_cons_zero, PV.toInt, PV.toStr, j56, J5_2_eq, validB, sFloor, sNear, sZero]
  generalize (round.data.toList == (ByteArray.mk #[102, 108, 111, 111, 114]).data.toList) = A
  generalize (round.data.toList == (ByteArray.mk #[110, 101, 97, 114]).data.toList) = B
  generalize (round.data.toList == (ByteArray.mk #[122, 101, 114, 111]).data.toList) = C
  cases A <;> cases B <;> cases C <;> rfl

theorem b13_facts (h : b13 I F = true) : 0 ≤ I ∧ 0 ≤ F ∧ I + F ≤ 30 := by
  simp only [b13, Bool.and_eq_true] at h
  obtain ⟨a1, a2, a3, a4, a5⟩ := h
  have a1 : 0 ≤ I := of_decide_eq_true a1
  have a2 : 0 ≤ F := of_decide_eq_true a2
  have a3 : I ≤ 30 := of_decide_eq_true a3
  have a4 : F ≤ 30 := of_decide_eq_true a4
  have a5 : IntKind.i64.wrap (I + F) ≤ 30 := of_decide_eq_true a5
  rw [wrap_id (by omega) (by omega)] at a5
  exact ⟨a1, a2, a5⟩

theorem bFl_facts (h : bFl I F = true) : 1 ≤ I ∧ I ≤ 24 ∧ 0 ≤ F ∧ F ≤ 20 ∧ I + F ≤ 30 := by
  simp only [bFl, Bool.and_eq_true] at h
  obtain ⟨a1, a2, a3, a4, a5⟩ := h
  have a1 : 1 ≤ I := of_decide_eq_true a1
  have a2 : I ≤ 24 := of_decide_eq_true a2
  have a3 : 0 ≤ F := of_decide_eq_true a3
  have a4 : F ≤ 20 := of_decide_eq_true a4
  have a5 : IntKind.i64.wrap (I + F) ≤ 30 := of_decide_eq_true a5
  rw [wrap_id (by omega) (by omega)] at a5
  exact ⟨a1, a2, a3, a4, a5⟩

theorem str_of {s t : ByteArray} (h : (s.data.toList == t.data.toList) = true) : s = t := by
  have := eq_of_beq h
  cases s with | mk a => cases t with | mk b =>
  congr 1
  exact Array.toList_inj.1 this

/-- What a format that is one is. -/
theorem validB_facts (h : validB kind round over I F = true) :
    (sFloor round || (sNear round || sZero round)) = true ∧
    ((sFix kind = true ∧ (0 ≤ I ∧ 0 ≤ F ∧ I + F ≤ 30) ∧ (over = satS ∨ over = noneS ∨ over = wrapS)) ∨
     (sFix kind = false ∧ (1 ≤ I ∧ I ≤ 24 ∧ 0 ≤ F ∧ F ≤ 20 ∧ I + F ≤ 30) ∧ (over = satS ∨ over = noneS))) := by
  unfold validB at h
  have h1 : (sFloor round || (sNear round || sZero round)) = true := by
    cases hc : (sFloor round || (sNear round || sZero round)) with
    | true => rfl
    | false => rw [hc] at h; cases h
  refine ⟨h1, ?_⟩
  rw [h1, cond_true] at h
  have kindT : bKind kind I F = true → sFix kind = true → (0 ≤ I ∧ 0 ≤ F ∧ I + F ≤ 30) := by
    intro hb hk
    unfold bKind at hb
    rw [hk, cond_true] at hb
    exact b13_facts hb
  have kindF : bKind kind I F = true → sFix kind = false → (1 ≤ I ∧ I ≤ 24 ∧ 0 ≤ F ∧ F ≤ 20 ∧ I + F ≤ 30) := by
    intro hb hk
    unfold bKind at hb
    rw [hk, cond_false] at hb
    cases hf : sFloat kind with
    | true => rw [hf, cond_true] at hb; exact bFl_facts hb
    | false => rw [hf] at hb; cases hb
  cases hs : sSat over with
  | true =>
    rw [hs, cond_true] at h
    have e := str_of (t := satS) hs
    cases hk : sFix kind with
    | true => exact .inl ⟨rfl, kindT h hk, .inl e⟩
    | false => exact .inr ⟨rfl, kindF h hk, .inl e⟩
  | false =>
    rw [hs, cond_false] at h
    cases hn : sNone over with
    | true =>
      rw [hn, cond_true] at h
      have e := str_of (t := noneS) hn
      cases hk : sFix kind with
      | true => exact .inl ⟨rfl, kindT h hk, .inr (.inl e)⟩
      | false => exact .inr ⟨rfl, kindF h hk, .inr e⟩
    | false =>
      rw [hn, cond_false] at h
      cases hw : sWrap over with
      | true =>
        rw [hw, cond_true] at h
        have e := str_of (t := wrapS) hw
        cases hk : sFix kind with
        | true => rw [hk] at h; exact .inl ⟨rfl, kindT h hk, .inr (.inr e)⟩
        | false => rw [hk] at h; cases h
      | false => rw [hw] at h; cases h
end

end Go.V

set_option maxRecDepth 100000
set_option linter.unusedSimpArgs false
set_option linter.unusedVariables false
namespace Go.V
open Go.Proofs
section
variable {kind round over : ByteArray} {I F : Int}

theorem valid17 (q : CallF) (kind round over : ByteArray) (I F : Int) : Ev q 17 [.pv (.st 23) (fv kind I F round over)] [.pv .bool (.bool (validB kind round over I F))] := by
  refine Ev.of rfl fun k => ?_
  rw [R17]
  simp only [fv, PV.cell, PV.cells, List.getD_cons_succ, List.getD_cons_zero, PV.toInt, PV.toStr, PV.toBool, J17_2_eq, J17_3_eq, J17_6_eq, J17_5_eq, J17_7_eq, validB, bKind, b13, bFl, sFloor, sNear, sZero, sFix, sFloat, sSat, sNone, sWrap]
  generalize (round.data.toList == (ByteArray.mk #[102, 108, 111, 111, 114]).data.toList) = A
  generalize (round.data.toList == (ByteArray.mk #[110, 101, 97, 114]).data.toList) = B
  generalize (round.data.toList == (ByteArray.mk #[122, 101, 114, 111]).data.toList) = C
  generalize hsat : (over.data.toList == (ByteArray.mk #[115, 97, 116]).data.toList) = D
  generalize hnone : (over.data.toList == (ByteArray.mk #[110, 111, 110, 101]).data.toList) = E
  generalize hwrap : (over.data.toList == (ByteArray.mk #[119, 114, 97, 112]).data.toList) = W
  have hnw : E = true → W = true → False := by
    rintro rfl rfl
    have e1 := eq_of_beq hnone
    rw [e1] at hwrap
    exact absurd hwrap (by decide)
  generalize (kind.data.toList == (ByteArray.mk #[102, 105, 120]).data.toList) = X
  generalize (kind.data.toList == (ByteArray.mk #[102, 108, 111, 97, 116]).data.toList) = Y
  generalize leI (IntKind.i64.wrap (I + F)) 30 = S
  generalize leI 0 I = a1
  generalize leI I 30 = a2
  generalize leI 0 F = a3
  generalize leI F 30 = a4
  generalize leI 1 I = a5
  generalize leI I 24 = a6
  generalize leI F 20 = a7
  have big : ∀ A B C D W X Y S : Bool, True := fun _ _ _ _ _ _ _ _ => trivial
  cases X
  · cases Y
    · cases A <;> cases B <;> cases C <;> cases D <;> cases E <;> cases W <;> rfl
    · cases a5 <;> cases a6 <;> cases a3 <;> cases a7 <;> cases A <;> cases B <;> cases C <;> cases D <;> cases E <;> cases W <;> rfl
  · cases a1 <;> cases a2 <;> cases a3 <;> cases a4 <;> cases A <;> cases B <;> cases C <;> cases D <;> cases E <;> cases W <;> first | rfl | exact absurd rfl (fun h => hnw rfl rfl)

/-- The text of a format. -/
def textP (kind : ByteArray) (I F : Int) (round over : ByteArray) : ByteArray :=
  bif validB kind round over I F then kind ++ (ByteArray.mk #[40]) ++ itoaP I ++ (ByteArray.mk #[44]) ++ itoaP F ++ (ByteArray.mk #[44]) ++ round ++ (ByteArray.mk #[44]) ++ over ++ (ByteArray.mk #[41]) else ByteArray.mk #[]

theorem size_itoaP (i : Int) : (itoaP i).size ≤ 2 := by
  unfold itoaP itoaN
  split <;> simp [ByteArray.size]

theorem valid_sizes (h : validB kind round over I F = true) : kind.size ≤ 5 ∧ round.size ≤ 5 ∧ over.size ≤ 4 ∧ 0 ≤ I ∧ I ≤ 30 ∧ 0 ≤ F ∧ F ≤ 30 := by
  have hk : sFix kind = true ∨ sFloat kind = true := by
    cases h1 : sFix kind with
    | true => exact .inl rfl
    | false =>
      cases h2 : sFloat kind with
      | true => exact .inr rfl
      | false =>
        exfalso
        unfold validB bKind at h
        rw [h1, h2] at h
        revert h
        generalize (sFloor round || (sNear round || sZero round)) = A
        generalize sSat over = B
        generalize sNone over = C
        generalize sWrap over = D
        cases A <;> cases B <;> cases C <;> cases D <;> simp
  obtain ⟨hr, hrest⟩ := validB_facts h
  have hr' : sFloor round = true ∨ sNear round = true ∨ sZero round = true := by simpa using hr
  have k5 : kind.size ≤ 5 := by
    rcases hk with h | h
    · rw [str_of h]; decide
    · rw [str_of h]; decide
  have r5 : round.size ≤ 5 := by
    rcases hr' with h | h | h
    · rw [str_of h]; decide
    · rw [str_of h]; decide
    · rw [str_of h]; decide
  rcases hrest with ⟨_, ⟨a, b, c⟩, ho⟩ | ⟨_, ⟨a, b, c, d, e⟩, ho⟩
  · refine ⟨k5, r5, ?_, by omega, by omega, by omega, by omega⟩
    rcases ho with rfl | rfl | rfl <;> decide
  · refine ⟨k5, r5, ?_, by omega, by omega, by omega, by omega⟩
    rcases ho with rfl | rfl <;> decide

theorem lenB {n : Nat} (h : n ≤ 9223372036854775807) : leN n 9223372036854775807 = true := decide_eq_true h

theorem text15 (q : CallF) (kind round over : ByteArray) (I F : Int) : Ev q 15 [.pv (.st 23) (fv kind I F round over)] [.pv .str (.str (textP kind I F round over))] := by
  cases hv : validB kind round over I F with
  | false =>
    refine (valid5 q kind round over I F).evt.ev rfl fun k h => ?_
    rw [hv] at h
    rw [R15]
    simp only [fv] at h ⊢
    simp only [PV.cell, PV.cells, List.getD_cons_succ, List.getD_cons_zero, PV.toInt, PV.toStr, PV.toBool, okRes, resPV, Ty.eq, Nat.beq_refl, decide_true, Bool.not_true, Bool.not_false, cond_true, cond_false] at h ⊢
    simp only [h, PV.cell, PV.cells, List.getD_cons_succ, List.getD_cons_zero, PV.toInt, PV.toStr, PV.toBool, okRes, resPV, Ty.eq, Nat.beq_refl, decide_true, Bool.not_true, Bool.not_false, cond_true, cond_false, textP, hv]
  | true =>
    obtain ⟨s1, s2, s3, i0, i1, f0, f1⟩ := valid_sizes hv
    refine (((valid5 q kind round over I F).evt.and (itoa_ev q i0 i1).evt).and (itoa_ev q f0 f1).evt).ev rfl fun k h => ?_
    rw [hv] at h
    obtain ⟨⟨h1, h2⟩, h3⟩ := h
    have z1 := size_itoaP I
    have z2 := size_itoaP F
    rw [R15]
    simp only [fv] at h1 ⊢
    simp only [PV.cell, PV.cells, List.getD_cons_succ, List.getD_cons_zero, PV.toInt, PV.toStr, PV.toBool, okRes, resPV, Ty.eq, Nat.beq_refl, decide_true, Bool.not_true, Bool.not_false, cond_true, cond_false] at h1 ⊢
    simp only [h1, PV.cell, PV.cells, List.getD_cons_succ, List.getD_cons_zero, PV.toInt, PV.toStr, PV.toBool, okRes, resPV, Ty.eq, Nat.beq_refl, decide_true, Bool.not_true, Bool.not_false, cond_true, cond_false, J15_3_eq, h2, h3, ByteArray.size_append]
    have c1 : (ByteArray.mk #[40]).size = 1 := rfl
    have c2 : (ByteArray.mk #[44]).size = 1 := rfl
    have c3 : (ByteArray.mk #[41]).size = 1 := rfl
    simp only [c1, c2, c3]
    rw [lenB (by omega), lenB (by omega), lenB (by omega), lenB (by omega), lenB (by omega), lenB (by omega), lenB (by omega), lenB (by omega), lenB (by omega)]
    simp only [cond_true, textP, hv]

theorem text16 (q : CallF) (kind round over : ByteArray) (I F : Int) : Ev q 16 [.pv (.st 23) (fv kind I F round over)] [.pv .str (.str (textP kind I F round over))] := by
  cases hv : validB kind round over I F with
  | false =>
    refine (valid17 q kind round over I F).evt.ev rfl fun k h => ?_
    rw [hv] at h
    rw [R16]
    simp only [fv] at h ⊢
    simp only [PV.cell, PV.cells, List.getD_cons_succ, List.getD_cons_zero, PV.toInt, PV.toStr, PV.toBool, okRes, resPV, Ty.eq, Nat.beq_refl, decide_true, Bool.not_true, Bool.not_false, cond_true, cond_false] at h ⊢
    simp only [h, PV.cell, PV.cells, List.getD_cons_succ, List.getD_cons_zero, PV.toInt, PV.toStr, PV.toBool, okRes, resPV, Ty.eq, Nat.beq_refl, decide_true, Bool.not_true, Bool.not_false, cond_true, cond_false, textP, hv]
  | true =>
    obtain ⟨s1, s2, s3, i0, i1, f0, f1⟩ := valid_sizes hv
    refine (((valid17 q kind round over I F).evt.and (itoa_ev q i0 i1).evt).and (itoa_ev q f0 f1).evt).ev rfl fun k h => ?_
    rw [hv] at h
    obtain ⟨⟨h1, h2⟩, h3⟩ := h
    have z1 := size_itoaP I
    have z2 := size_itoaP F
    rw [R16]
    simp only [fv] at h1 ⊢
    simp only [PV.cell, PV.cells, List.getD_cons_succ, List.getD_cons_zero, PV.toInt, PV.toStr, PV.toBool, okRes, resPV, Ty.eq, Nat.beq_refl, decide_true, Bool.not_true, Bool.not_false, cond_true, cond_false] at h1 ⊢
    simp only [h1, PV.cell, PV.cells, List.getD_cons_succ, List.getD_cons_zero, PV.toInt, PV.toStr, PV.toBool, okRes, resPV, Ty.eq, Nat.beq_refl, decide_true, Bool.not_true, Bool.not_false, cond_true, cond_false, J16_3_eq, h2, h3, ByteArray.size_append]
    have c1 : (ByteArray.mk #[40]).size = 1 := rfl
    have c2 : (ByteArray.mk #[44]).size = 1 := rfl
    have c3 : (ByteArray.mk #[41]).size = 1 := rfl
    simp only [c1, c2, c3]
    rw [lenB (by omega), lenB (by omega), lenB (by omega), lenB (by omega), lenB (by omega), lenB (by omega), lenB (by omega), lenB (by omega), lenB (by omega)]
    simp only [cond_true, textP, hv]
end
end Go.V
