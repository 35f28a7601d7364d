/- What quant.Parse reads of any text is the one format whose text it is; the reference's search finds the same; the law. Conditions: texts of at most 1048576 bytes. -/
import Derived.Test.YtegnaiffnkklpaaDoorVQ
set_option maxRecDepth 100000
set_option linter.unusedSimpArgs false
set_option linter.unusedVariables false
namespace Go.V
open Go.Proofs Go.RowKit

structure Fmt where
  kind : ByteArray
  I : Int
  F : Int
  round : ByteArray
  over : ByteArray
def Fmt.pv (f : Fmt) : PV := fv f.kind f.I f.F f.round f.over
def Fmt.val (f : Fmt) : Value := fval f.kind f.I f.F f.round f.over
def Fmt.text (f : Fmt) : ByteArray := textP f.kind f.I f.F f.round f.over
def Fmt.ok (f : Fmt) : Bool := validB f.kind f.round f.over f.I f.F
def zeroF : Fmt := ⟨⟨#[]⟩, 0, 0, ⟨#[]⟩, ⟨#[]⟩⟩

def kindP (s : ByteArray) : ByteArray := ⟨(Lib.cut s.data.toList [40]).1.toArray⟩
def restP (s : ByteArray) : ByteArray := ⟨(Lib.cut s.data.toList [40]).2.1.toArray⟩
def bodyP (s : ByteArray) : ByteArray := ⟨(Lib.trimSuffix (Lib.cut s.data.toList [40]).2.1 [41]).toArray⟩
def partsP (s : ByteArray) : List ByteArray := Lib.splitB ⟨#[44]⟩ 0 (Lib.countB (bodyP s) ⟨#[44]⟩) (bodyP s)

open Classical in
/-- What quant.Parse reads. -/
noncomputable def parseP (s : ByteArray) : Option Fmt :=
  if (Lib.cut s.data.toList [40]).2.2 = true then
    match partsP s with
    | [a, b, c, d] =>
      if a.size ≤ 2 ∧ b.size ≤ 2 ∧ (Lib.atoi a.data.toList).isSome = true ∧ (Lib.atoi b.data.toList).isSome = true ∧ textP (kindP s) (av a) (av b) c d = s then some ⟨kindP s, av a, av b, c, d⟩ else none
    | _ => none
  else none

theorem cut_len (l sep : List UInt8) : (Lib.cut l sep).2.1.length ≤ l.length := by
  unfold Lib.cut
  split
  · show (List.drop _ _).length ≤ _
    rw [List.length_drop]; exact Nat.sub_le _ _
  · exact Nat.zero_le _
theorem trim_len (l p : List UInt8) : (Lib.trimSuffix l p).length ≤ l.length := by
  unfold Lib.trimSuffix
  split
  · rw [List.length_take]; exact Nat.min_le_right _ _
  · exact Nat.le_refl _

theorem sz_mk (l : List UInt8) : (ByteArray.mk l.toArray).size = l.length := by simp [ByteArray.size]
theorem sz_of (s : ByteArray) : s.data.toList.length = s.size := (Lib.size_eq s).symm

theorem cts (s : ByteArray) (hs : s.size ≤ 1048576) (w : World) (hv : VarsOk Tryd.prog w gFree) : Cts w s (kindP s) (restP s) (bodyP s) (Lib.cut s.data.toList [40]).2.2 (partsP s) := by
  obtain ⟨_, _, h3⟩ := hv "internal/bytealg.MaxLen" 0 (show _ ∈ libVars from .head _) (by kernel_rfl)
  simp only [varIs, if_true] at h3
  obtain ⟨m, hm⟩ := h3
  have c1 := cut_len s.data.toList [40]
  have c2 := trim_len (Lib.cut s.data.toList [40]).2.1 [41]
  rw [sz_of] at c1
  refine ⟨hv, fun W h => ?_, fun W => ?_, fun W h => ?_⟩
  · exact Tryd.strings_Cut s ⟨#[40]⟩ m W (by omega) (cell_below h hm)
  · have := Tryd.strings_TrimSuffix (restP s) ⟨#[41]⟩ W (by unfold restP; rw [sz_mk]; omega)
    exact this
  · have h1 := Tryd.strings_Split (bodyP s) ⟨#[44]⟩ m W (by unfold bodyP; rw [sz_mk]; omega) (cell_below h hm) (by decide)
    have hl := Lib.splitB_all ⟨#[44]⟩ (by decide) 0 _ (bodyP s) rfl
    refine h1.mono fun e w' h => ?_
    have hl' : (partsP s).length = Lib.countB (bodyP s) ⟨#[44]⟩ + 1 := hl
    rw [hl']
    exact h

theorem parse_c (s : ByteArray) (hs : s.size ≤ 1048576) (w : World) (hv : VarsOk Tryd.prog w gFree) :
    Calls Tryd.prog 13 #[.string s] w fun e w' => e = .returned (.tuple #[((parseP s).getD zeroF).val, .int .i64 (bif (parseP s).isSome then 0 else 3)]) ∧ Below w.heap.size w w' := by
  have C := cts s hs w hv
  unfold parseP
  cases hok : (Lib.cut s.data.toList [40]).2.2 with
  | false =>
    rw [hok] at C
    exact parse_no C
  | true =>
    rw [hok] at C
    simp only [if_true]
    split
    · rename_i a b c d hp
      rw [hp] at C
      by_cases h1 : a.size ≤ 2
      · by_cases h2 : b.size ≤ 2
        · cases ha : Lib.atoi a.data.toList with
          | none =>
            rw [if_neg (by rw [Option.isSome]; simp)]
            cases hb : Lib.atoi b.data.toList with
            | none => exact parse_nab C h1 h2 ha hb
            | some k => exact parse_na C h1 h2 ha (by rw [hb]; rfl)
          | some i =>
            cases hb : Lib.atoi b.data.toList with
            | none =>
              rw [if_neg (by simp)]
              exact parse_nb C h1 h2 (by rw [ha]; rfl) hb
            | some k =>
              by_cases ht : textP (kindP s) (av a) (av b) c d = s
              · rw [if_pos ⟨h1, h2, rfl, rfl, ht⟩]
                exact parse_yes C h1 h2 (by rw [ha]; rfl) (by rw [hb]; rfl) ht
              · rw [if_neg (by rintro ⟨_, _, _, _, h⟩; exact ht h)]
                exact parse_ne C h1 h2 (by rw [ha]; rfl) (by rw [hb]; rfl) ht
        · rw [if_neg (by rintro ⟨_, h, _⟩; exact h2 h)]
          exact parse_big C (.inr (by omega))
      · rw [if_neg (by rintro ⟨h, _⟩; exact h1 h)]
        exact parse_big C (.inl (by omega))
    · rename_i hp
      refine parse_len C fun h => ?_
      match hq : partsP s, h with
      | [a, b, c, d], _ => exact hp a b c d hq

/-- quant.Parse as the evaluator is told it. -/
noncomputable def qP : CallF := fun _ az =>
  match az with
  | [.pv .str v] => bif leN v.toStr.size 1048576 then some ([.pv (.st 23) ((parseP v.toStr).getD zeroF).pv, .pv (.int .i64) (.int .i64 (bif (parseP v.toStr).isSome then 0 else 3))], []) else none
  | _ => none

theorem qP_ok : CallOk Tryd.prog (fun f az => bif Nat.beq f 13 then qP f az else none) := by
  refine ⟨fun f az res back h vals w g hargs hfr hvr hown => ?_⟩
  cases hff : Nat.beq f 13 with
  | false => simp [hff] at h
  | true =>
    have := Nat.eq_of_beq_eq_true hff
    subst this
    simp only [hff, cond_true] at h
    unfold qP at h
    split at h
    · rename_i v
      cases hc : leN v.toStr.size 1048576 with
      | false => simp [hc] at h
      | true =>
        simp only [hc, cond_true, Option.some.injEq, Prod.mk.injEq] at h
        obtain ⟨rfl, rfl⟩ := h
        match vals, hargs with
        | [vx], ⟨hx, _⟩ =>
          obtain ⟨s, rfl, rfl⟩ := hx.str_inv
          have hs : s.size ≤ 1048576 := of_decide_eq_true hc
          refine .inl ⟨Tryd.f13, Tryd.func13, by kernel_rfl, of_decide_eq_true (by kernel_rfl), ?_⟩
          refine (parse_c s hs w (fun n v h1 h2 => ⟨rfl, (hvr n v h1 h2).2⟩)).mono fun e w' h => ?_
          obtain ⟨rfl, hb⟩ := h
          refine ⟨_, g, rfl, ⟨hb.os, hb.tape, hb.output, hb.size, fun b hlt h => ⟨h, hb.block b hlt⟩, fun b hlt h => ⟨h, hb.block b hlt⟩, fun b h => ⟨h, ?_⟩, fun b h => hfr b (Nat.le_trans hb.size h)⟩, ?_, ?_, rfl, fun i y h => by simp at h⟩
          · rcases Nat.lt_or_ge b w.heap.size with h' | h'
            · exact h'
            · rw [hfr b h'] at h; cases h
          · refine ⟨_, rfl, rfl, fun i x v hx hv => ?_⟩
            match i with
            | 0 => simp at hx hv; subst hx hv; exact ⟨_, _, rfl, rep_fv _ _ _ _ _⟩
            | 1 => simp at hx hv; subst hx hv; exact ⟨_, _, rfl, .int _ _⟩
            | i + 2 => simp at hx
          · intro b s p ht
            exact Nat.le_of_lt (hown b s p ht)
    · cases h

theorem base_ok : CallOk Tryd.prog (baseQ qP) := baseQ_ok qP_ok
theorem parse13 {s : ByteArray} (hs : s.size ≤ 1048576) : Ev qP 13 [.pv .str (.str s)] [.pv (.st 23) ((parseP s).getD zeroF).pv, .pv (.int .i64) (.int .i64 (bif (parseP s).isSome then 0 else 3))] := by
  refine ⟨0, fun k _ => ?_⟩
  have hb : baseQ qP 13 [.pv .str (.str s)] = some ([.pv (.st 23) ((parseP s).getD zeroF).pv, .pv (.int .i64) (.int .i64 (bif (parseP s).isSome then 0 else 3))], []) := by
    have : leN s.size 1048576 = true := decide_eq_true hs
    simp only [baseQ, Nat.beq_refl, cond_true, qP, PV.toStr, this]
  unfold EG
  cases k with
  | zero => exact hb
  | succ k => simp only [evG, hb]
end Go.V

set_option maxRecDepth 100000
set_option linter.unusedSimpArgs false
set_option linter.unusedVariables false
namespace Go.V
open Go.Proofs Go.RowKit

theorem idx_hit (c : UInt8) : ∀ (p r : List UInt8), c ∉ p → Lib.index (p ++ c :: r) [c] = (p.length : Int)
  | [], r, _ => by simp [Lib.index, List.isPrefixOf]
  | b :: p, r, h => by
    have hb : (c == b) = false := by
      simp only [List.mem_cons, not_or] at h
      simpa using h.1
    have ih := idx_hit c p r (fun h' => h (List.mem_cons_of_mem _ h'))
    have hl : ((p.length : Int) == -1) = false := by
      rw [beq_eq_false_iff_ne]; omega
    simp only [List.cons_append, Lib.index, List.isPrefixOf, hb, Bool.false_and, Bool.false_eq_true, if_false, ih, hl, List.length_cons]
    omega

theorem idx_miss (c : UInt8) : ∀ (p : List UInt8), c ∉ p → Lib.index p [c] = -1
  | [], _ => by simp [Lib.index]
  | b :: p, h => by
    have hb : (c == b) = false := by
      simp only [List.mem_cons, not_or] at h
      simpa using h.1
    have ih := idx_miss c p (fun h' => h (List.mem_cons_of_mem _ h'))
    simp [Lib.index, List.isPrefixOf, hb, ih]

theorem cut_hit (c : UInt8) (p r : List UInt8) (h : c ∉ p) : Lib.cut (p ++ c :: r) [c] = (p, r, true) := by
  unfold Lib.cut
  rw [idx_hit c p r h, if_pos (by omega)]
  simp

theorem countFrom_hit (c : UInt8) (n : Nat) (p r : List UInt8) (h : c ∉ p) : Lib.countFrom [c] (n + 1) (p ++ c :: r) = 1 + Lib.countFrom [c] n r := by
  have hl : ((p.length : Int) == -1) = false := by rw [beq_eq_false_iff_ne]; omega
  simp only [Lib.countFrom, idx_hit c p r h, hl, Bool.false_eq_true, if_false]
  simp

theorem trim_hit (c : UInt8) (p : List UInt8) : Lib.trimSuffix (p ++ [c]) [c] = p := by
  unfold Lib.trimSuffix Lib.hasSuffix
  rw [if_pos (by rw [List.isSuffixOf_iff_suffix]; exact ⟨p, rfl⟩)]
  simp

theorem mk_ext {p q : ByteArray} (h : p.data.toList = q.data.toList) : p = q := by
  cases p; cases q; congr 1; exact Array.toList_inj.1 h

theorem split_hit (k : Nat) (p r : List UInt8) (h : (44 : UInt8) ∉ p) : Lib.splitB ⟨#[44]⟩ 0 (k + 1) ⟨(p ++ 44 :: r).toArray⟩ = ⟨p.toArray⟩ :: Lib.splitB ⟨#[44]⟩ 0 k ⟨r.toArray⟩ := by
  have hi : Lib.indexB ⟨(p ++ 44 :: r).toArray⟩ ⟨#[44]⟩ = (p.length : Nat) := idx_hit 44 p r h
  rw [Lib.splitB_hit _ _ _ _ _ hi]
  congr 1
  · apply mk_ext
    rw [Lib.extract_data]; simp
  · congr 1
    apply mk_ext
    rw [Lib.extract_data, sz_mk]
    have : (ByteArray.mk #[(44 : UInt8)]).size = 1 := rfl
    rw [this]
    simp
    exact List.take_of_length_le (by omega)

theorem split_miss (k : Nat) (p : List UInt8) (h : (44 : UInt8) ∉ p) : Lib.splitB ⟨#[44]⟩ 0 k ⟨p.toArray⟩ = [⟨p.toArray⟩] :=
  Lib.splitB_miss _ _ _ _ (idx_miss 44 p h)

/-- What is split at three commas. -/
theorem split4 (a b c d : List UInt8) (ha : (44 : UInt8) ∉ a) (hb : (44 : UInt8) ∉ b) (hc : (44 : UInt8) ∉ c) (hd : (44 : UInt8) ∉ d) :
    Lib.splitB ⟨#[44]⟩ 0 (Lib.countB ⟨(a ++ 44 :: (b ++ 44 :: (c ++ 44 :: d))).toArray⟩ ⟨#[44]⟩) ⟨(a ++ 44 :: (b ++ 44 :: (c ++ 44 :: d))).toArray⟩ = [⟨a.toArray⟩, ⟨b.toArray⟩, ⟨c.toArray⟩, ⟨d.toArray⟩] := by
  have hk : ∃ x, Lib.countB ⟨(a ++ 44 :: (b ++ 44 :: (c ++ 44 :: d))).toArray⟩ ⟨#[44]⟩ = x + 3 := by
    show ∃ x, Lib.countFrom [44] ((a ++ 44 :: (b ++ 44 :: (c ++ 44 :: d))).length + 1) (a ++ 44 :: (b ++ 44 :: (c ++ 44 :: d))) = x + 3
    rw [countFrom_hit _ _ _ _ ha]
    obtain ⟨n, hn⟩ : ∃ n, (a ++ 44 :: (b ++ 44 :: (c ++ 44 :: d))).length = n + 1 + 1 := ⟨a.length + b.length + c.length + d.length + 1, by simp; omega⟩
    rw [hn, countFrom_hit _ _ _ _ hb, countFrom_hit _ _ _ _ hc]
    exact ⟨Lib.countFrom [44] n d, by omega⟩
  obtain ⟨x, hk⟩ := hk
  rw [hk, split_hit _ _ _ ha, split_hit _ _ _ hb, split_hit _ _ _ hc, split_miss _ _ hd]

/-- The formats, one by one. -/
def kindC (c : Nat) : ByteArray := if c % 2 = 1 then ByteArray.mk #[102, 108, 111, 97, 116] else ByteArray.mk #[102, 105, 120]
def roundC (c : Nat) : ByteArray := if c / 2 % 3 = 1 then ByteArray.mk #[110, 101, 97, 114] else if c / 2 % 3 = 2 then ByteArray.mk #[122, 101, 114, 111] else ByteArray.mk #[102, 108, 111, 111, 114]
def overC (c : Nat) : ByteArray := if c / 6 = 1 then ByteArray.mk #[119, 114, 97, 112] else if c / 6 = 2 then ByteArray.mk #[110, 111, 110, 101] else ByteArray.mk #[115, 97, 116]
def ch (i j c : Nat) : Fmt := ⟨kindC c, i, j, roundC c, overC c⟩

theorem kindC_no : ∀ c, c < 18 → (40 : UInt8) ∉ (kindC c).data.toList := by decide +kernel
theorem roundC_no : ∀ c, c < 18 → (44 : UInt8) ∉ (roundC c).data.toList := by decide +kernel
theorem overC_no : ∀ c, c < 18 → (44 : UInt8) ∉ (overC c).data.toList := by decide +kernel
theorem itoaN_no : ∀ i, i < 31 → (44 : UInt8) ∉ (itoaN i).data.toList := by decide +kernel
theorem itoaN_atoi : ∀ i, i < 31 → Lib.atoi (itoaN i).data.toList = some (i : Int) := by decide +kernel

theorem data_app (a b : ByteArray) : (a ++ b).data.toList = a.data.toList ++ b.data.toList := by
  simp [ByteArray.data_append]

theorem itoaP_nat (i : Nat) : itoaP (i : Int) = itoaN i := by simp [itoaP]

theorem text_list {i j c : Nat} (h : (ch i j c).ok = true) : (ch i j c).text.data.toList =
    (kindC c).data.toList ++ 40 :: ((((itoaN i).data.toList ++ 44 :: ((itoaN j).data.toList ++ 44 :: ((roundC c).data.toList ++ 44 :: (overC c).data.toList)))) ++ [41]) := by
  have h' : validB (kindC c) (roundC c) (overC c) (i : Int) (j : Int) = true := h
  simp only [Fmt.text, ch, textP, h', cond_true, data_app, itoaP_nat]
  simp

theorem parse_ch {i j c : Nat} (hi : i < 31) (hj : j < 31) (hc : c < 18) (h : (ch i j c).ok = true) : parseP (ch i j c).text = some (ch i j c) := by
  have hl := text_list h
  have hcut := cut_hit 40 (kindC c).data.toList ((((itoaN i).data.toList ++ 44 :: ((itoaN j).data.toList ++ 44 :: ((roundC c).data.toList ++ 44 :: (overC c).data.toList)))) ++ [41]) (kindC_no c hc)
  rw [← hl] at hcut
  have hk : kindP (ch i j c).text = kindC c := by
    unfold kindP; rw [hcut]
  have hp : partsP (ch i j c).text = [itoaN i, itoaN j, roundC c, overC c] := by
    have hb : bodyP (ch i j c).text = ⟨((itoaN i).data.toList ++ 44 :: ((itoaN j).data.toList ++ 44 :: ((roundC c).data.toList ++ 44 :: (overC c).data.toList))).toArray⟩ := by
      unfold bodyP; rw [hcut, trim_hit]
    unfold partsP
    rw [hb, split4 _ _ _ _ (itoaN_no i hi) (itoaN_no j hj) (roundC_no c hc) (overC_no c hc)]
  have ai := itoaN_atoi i hi
  have aj := itoaN_atoi j hj
  have vi : av (itoaN i) = i := by unfold av; rw [ai]; rfl
  have vj : av (itoaN j) = j := by unfold av; rw [aj]; rfl
  unfold parseP
  rw [hcut, if_pos rfl, hp]
  simp only [hk, vi, vj]
  rw [if_pos ⟨by have := size_itoaP (i : Int); rwa [itoaP_nat] at this, by have := size_itoaP (j : Int); rwa [itoaP_nat] at this, by rw [ai]; rfl, by rw [aj]; rfl, rfl⟩]
  rfl

theorem parse_some {s : ByteArray} {f : Fmt} (h : parseP s = some f) : f.ok = true ∧ f.text = s := by
  unfold parseP at h
  split at h
  · rename_i hok
    split at h
    · rename_i a b c d _
      split at h
      · rename_i hh
        obtain ⟨_, _, _, _, ht⟩ := hh
        simp only [Option.some.injEq] at h
        subst h
        refine ⟨?_, ht⟩
        show validB (kindP s) c d (av a) (av b) = true
        cases hv : validB (kindP s) c d (av a) (av b) with
        | true => rfl
        | false =>
          exfalso
          rw [textP, hv, cond_false] at ht
          rw [← ht] at hok
          revert hok
          decide +kernel
      · cases h
    · cases h
  · cases h

theorem ok_ch {f : Fmt} (h : f.ok = true) : ∃ i j c, i + j ≤ 30 ∧ c < 18 ∧ f = ch i j c := by
  obtain ⟨kind, I, F, round, over⟩ := f
  have h' : validB kind round over I F = true := h
  have hk : sFix kind = true ∨ sFloat kind = true := by
    cases h1 : sFix kind with
    | true => exact .inl rfl
    | false =>
      cases h2 : sFloat kind with
      | true => exact .inr rfl
      | false =>
        exfalso
        unfold validB bKind at h'
        rw [h1, h2] at h'
        revert h'
        generalize (sFloor round || (sNear round || sZero round)) = A
        generalize sSat over = B
        generalize sNone over = C
        generalize sWrap over = D
        cases A <;> cases B <;> cases C <;> cases D <;> simp
  obtain ⟨hr, hrest⟩ := validB_facts h'
  have hr' : sFloor round = true ∨ sNear round = true ∨ sZero round = true := by simpa using hr
  have hb : 0 ≤ I ∧ 0 ≤ F ∧ I + F ≤ 30 ∧ (over = satS ∨ over = noneS ∨ over = wrapS) := by
    rcases hrest with ⟨_, ⟨a, b, c⟩, ho⟩ | ⟨_, ⟨a, b, c, d, e⟩, ho⟩
    · exact ⟨a, b, c, ho⟩
    · exact ⟨by omega, c, e, by rcases ho with h | h; exact .inl h; exact .inr (.inl h)⟩
  obtain ⟨a, b, c, ho⟩ := hb
  obtain ⟨i, rfl⟩ := Int.eq_ofNat_of_zero_le a
  obtain ⟨j, rfl⟩ := Int.eq_ofNat_of_zero_le b
  have key : ∃ c, c < 18 ∧ kind = kindC c ∧ round = roundC c ∧ over = overC c := by
    rcases hk with h | h <;> have e1 := str_of h <;> rcases hr' with h2 | h2 | h2 <;> have e2 := str_of h2 <;> rcases ho with e3 | e3 | e3 <;> subst e1 <;> subst e2 <;> subst e3
    · exact ⟨0, by decide, rfl, rfl, rfl⟩
    · exact ⟨12, by decide, rfl, rfl, rfl⟩
    · exact ⟨6, by decide, rfl, rfl, rfl⟩
    · exact ⟨2, by decide, rfl, rfl, rfl⟩
    · exact ⟨14, by decide, rfl, rfl, rfl⟩
    · exact ⟨8, by decide, rfl, rfl, rfl⟩
    · exact ⟨4, by decide, rfl, rfl, rfl⟩
    · exact ⟨16, by decide, rfl, rfl, rfl⟩
    · exact ⟨10, by decide, rfl, rfl, rfl⟩
    · exact ⟨1, by decide, rfl, rfl, rfl⟩
    · exact ⟨13, by decide, rfl, rfl, rfl⟩
    · exact ⟨7, by decide, rfl, rfl, rfl⟩
    · exact ⟨3, by decide, rfl, rfl, rfl⟩
    · exact ⟨15, by decide, rfl, rfl, rfl⟩
    · exact ⟨9, by decide, rfl, rfl, rfl⟩
    · exact ⟨5, by decide, rfl, rfl, rfl⟩
    · exact ⟨17, by decide, rfl, rfl, rfl⟩
    · exact ⟨11, by decide, rfl, rfl, rfl⟩
  obtain ⟨c', hc', rfl, rfl, rfl⟩ := key
  exact ⟨i, j, c', by omega, hc', rfl⟩

theorem parse_text {f : Fmt} (h : f.ok = true) : parseP f.text = some f := by
  obtain ⟨i, j, c, hij, hc, rfl⟩ := ok_ch h
  exact parse_ch (by omega) (by omega) hc h

theorem text_size {f : Fmt} (h : f.ok = true) : f.text.size ≤ 30 := by
  obtain ⟨a, b, c, _⟩ := valid_sizes (show validB f.kind f.round f.over f.I f.F = true from h)
  have z1 := size_itoaP f.I
  have z2 := size_itoaP f.F
  have h' : validB f.kind f.round f.over f.I f.F = true := h
  simp only [Fmt.text, textP, h', cond_true, ByteArray.size_append]
  have c1 : (ByteArray.mk #[40]).size = 1 := rfl
  have c2 : (ByteArray.mk #[44]).size = 1 := rfl
  have c3 : (ByteArray.mk #[41]).size = 1 := rfl
  omega
end Go.V

set_option maxRecDepth 100000
set_option linter.unusedSimpArgs false
set_option linter.unusedVariables false
namespace Go.V
open Go.Proofs Go.RowKit

theorem Evt.all {n : Nat} {p : Nat → Nat → Prop} (h : ∀ i, i < n → Evt (p i)) : Evt (fun k => ∀ i, i < n → p i k) := by
  induction n with
  | zero => exact ⟨0, fun k _ i hi => by omega⟩
  | succ n ih =>
    obtain ⟨K, hK⟩ := ih fun i hi => h i (by omega)
    obtain ⟨M, hM⟩ := h n (by omega)
    refine ⟨K + M, fun k hk i hi => ?_⟩
    by_cases he : i = n
    · subst he; exact hM k (by omega)
    · exact hK k (by omega) i (by omega)

theorem choice_at (q : CallF) (k : Nat) (i j : Nat) : ∀ c, c < 18 → EG q (k + 20) 31 [.pv (.int .i64) (.int .i64 (i : Int)), .pv (.int .i64) (.int .i64 (j : Int)), .pv (.int .i64) (.int .i64 (Int.ofNat c))] = some ([.pv (.st 23) (ch i j c).pv], [])
  | 0, _ => by kernel_rfl
  | 1, _ => by kernel_rfl
  | 2, _ => by kernel_rfl
  | 3, _ => by kernel_rfl
  | 4, _ => by kernel_rfl
  | 5, _ => by kernel_rfl
  | 6, _ => by kernel_rfl
  | 7, _ => by kernel_rfl
  | 8, _ => by kernel_rfl
  | 9, _ => by kernel_rfl
  | 10, _ => by kernel_rfl
  | 11, _ => by kernel_rfl
  | 12, _ => by kernel_rfl
  | 13, _ => by kernel_rfl
  | 14, _ => by kernel_rfl
  | 15, _ => by kernel_rfl
  | 16, _ => by kernel_rfl
  | 17, _ => by kernel_rfl
  | c + 18, h => by omega

/-- All calls of the reference's loops. -/
def Calls14 (k : Nat) : Prop := ∀ i : Nat, i < 31 → ∀ j : Nat, j < 31 → ∀ c : Nat, c < 18 →
  (EG qP k 31 [.pv (.int .i64) (.int .i64 (i : Int)), .pv (.int .i64) (.int .i64 (j : Int)), .pv (.int .i64) (.int .i64 (c : Int))] = some ([.pv (.st 23) (ch i j c).pv], []) ∧
   EG qP k 17 [.pv (.st 23) (ch i j c).pv] = some ([.pv .bool (.bool (ch i j c).ok)], [])) ∧
   EG qP k 16 [.pv (.st 23) (ch i j c).pv] = some ([.pv .str (.str (ch i j c).text)], [])

theorem calls14 : Evt Calls14 := by
  refine Evt.all fun i hi => Evt.all fun j hj => Evt.all fun c hc => ?_
  refine Evt.and (Evt.and ⟨20, fun k hk => ?_⟩ ?_) ?_
  · obtain ⟨k, rfl⟩ : ∃ m, k = m + 20 := ⟨k - 20, by omega⟩
    exact choice_at qP k i j c hc
  · exact (valid17 qP (kindC c) (roundC c) (overC c) (i : Int) (j : Int)).evt
  · exact (text16 qP (kindC c) (roundC c) (overC c) (i : Int) (j : Int)).evt

/-- What both Parse give. -/
noncomputable def resP (s : ByteArray) : List AO := [.pv (.st 23) ((parseP s).getD zeroF).pv, .pv (.int .i64) (.int .i64 (bif (parseP s).isSome then 0 else 3))]

def Ahead (s : ByteArray) (i j c : Nat) : Prop := ∀ f, parseP s = some f → ∃ i' j' c', i' + j' ≤ 30 ∧ c' < 18 ∧ f = ch i' j' c' ∧ (i < i' ∨ (i = i' ∧ (j < j' ∨ (j = j' ∧ c ≤ c'))))

section
variable {s : ByteArray} {k : Nat} {v1 v2 v3 v4 v5 : PV}

theorem seq {a b : Int} : ltI a b = decide (a < b) := rfl
theorem leqI {a b : Int} : leI a b = decide (a ≤ b) := rfl

theorem loop10 (hk : Calls14 k) {i j : Nat} (hij : i + j ≤ 30) {m1 m2 : Nat}
    (hnext : Ahead s i (j + 1) 0 → L14_7 gate1 (EG qP k) k m1 m2 (.str s) v1 v2 v3 v4 v5 (.int .i64 (i : Int)) (.int .i64 ((j + 1 : Nat) : Int)) = some (resP s, [])) :
    ∀ (d c : Nat), c + d = 18 → Ahead s i j c → ∀ n, d < n → L14_10 gate1 (EG qP k) k m1 m2 n (.str s) v1 v2 v3 v4 v5 (.int .i64 (i : Int)) (.int .i64 (j : Int)) (.int .i64 (c : Int)) = some (resP s, []) := by
  intro d
  induction d with
  | zero =>
    intro c hc ha n hn
    obtain ⟨n, rfl⟩ : ∃ m, n = m + 1 := ⟨n - 1, by omega⟩
    rw [L14_10_succ]
    simp only [PV.toInt, seq]
    rw [decide_eq_false (by omega), cond_false, J14_8_eq]
    simp only [PV.toInt]
    rw [wrap_id (by omega) (by omega), show (j : Int) + 1 = ((j + 1 : Nat) : Int) by omega]
    refine hnext fun f hf => ?_
    obtain ⟨i', j', c', h1, h2, h3, h4⟩ := ha f hf
    exact ⟨i', j', c', h1, h2, h3, by omega⟩
  | succ d ih =>
    intro c hc ha n hn
    obtain ⟨n, rfl⟩ : ∃ m, n = m + 1 := ⟨n - 1, by omega⟩
    obtain ⟨⟨e1, e2⟩, e3⟩ := hk i (by omega) j (by omega) c (by omega)
    have go : (parseP s ≠ some (ch i j c)) → J14_11 gate1 (EG qP k) k m1 m2 n (.str s) v1 v2 v3 v4 v5 (.int .i64 (i : Int)) (.int .i64 (j : Int)) (.int .i64 (c : Int)) = some (resP s, []) := by
      intro hne
      rw [J14_11_eq]
      simp only [PV.toInt]
      rw [wrap_id (by omega) (by omega), show (c : Int) + 1 = ((c + 1 : Nat) : Int) by omega]
      refine ih (c + 1) (by omega) (fun f hf => ?_) n (by omega)
      obtain ⟨i', j', c', h1, h2, h3, h4⟩ := ha f hf
      refine ⟨i', j', c', h1, h2, h3, ?_⟩
      by_cases he : i = i' ∧ j = j' ∧ c = c'
      · obtain ⟨rfl, rfl, rfl⟩ := he
        exact absurd (h3 ▸ hf) hne
      · omega
    rw [L14_10_succ]
    simp only [PV.toInt, seq]
    rw [decide_eq_true (by omega), cond_true, J14_12_eq]
    simp only [e1]
    simp only [Fmt.pv, fv] at e2 e3 ⊢
    simp only [PV.cell, PV.cells, List.getD_cons_succ, List.getD_cons_zero, PV.toInt, PV.toStr, PV.toBool, okRes, resPV, Ty.eq, Nat.beq_refl, decide_true, Bool.not_true, Bool.not_false, cond_true, cond_false] at e2 e3 ⊢
    simp only [e2, e3, PV.cell, PV.cells, List.getD_cons_succ, List.getD_cons_zero, PV.toInt, PV.toStr, PV.toBool, okRes, resPV, Ty.eq, Nat.beq_refl, decide_true, Bool.not_true, Bool.not_false, cond_true, cond_false, J14_14_eq]
    cases hv : (ch i j c).ok with
    | false =>
      simp only [cond_false]
      exact go fun h => by have := (parse_some h).1; rw [hv] at this; cases this
    | true =>
      simp only [cond_true]
      cases ht : ((ch i j c).text.data.toList == s.data.toList) with
      | false =>
        simp only [cond_false]
        exact go fun h => by
          have := (parse_some h).2
          rw [this, beq_self_eq_true] at ht; cases ht
      | true =>
        simp only [cond_true]
        have : (ch i j c).text = s := str_of ht
        have hp := parse_text hv
        rw [this] at hp
        rw [resP, hp]
        rfl

theorem loop7 (hk : Calls14 k) (h32 : 32 ≤ k) {i : Nat} (hi : i ≤ 30) {m1 : Nat}
    (hnext : Ahead s (i + 1) 0 0 → L14_4 gate1 (EG qP k) k m1 (.str s) v1 v2 v3 v4 v5 (.int .i64 ((i + 1 : Nat) : Int)) = some (resP s, [])) :
    ∀ (d j : Nat), i + j + d = 31 → Ahead s i j 0 → ∀ n, d < n → L14_7 gate1 (EG qP k) k m1 n (.str s) v1 v2 v3 v4 v5 (.int .i64 (i : Int)) (.int .i64 (j : Int)) = some (resP s, []) := by
  intro d
  induction d with
  | zero =>
    intro j hj ha n hn
    obtain ⟨n, rfl⟩ : ∃ m, n = m + 1 := ⟨n - 1, by omega⟩
    rw [L14_7_succ]
    simp only [PV.toInt, leqI]
    rw [wrap_id (by omega) (by omega), decide_eq_false (by omega), cond_false, J14_5_eq]
    simp only [PV.toInt]
    rw [wrap_id (by omega) (by omega), show (i : Int) + 1 = ((i + 1 : Nat) : Int) by omega]
    refine hnext fun f hf => ?_
    obtain ⟨i', j', c', h1, h2, h3, h4⟩ := ha f hf
    exact ⟨i', j', c', h1, h2, h3, by omega⟩
  | succ d ih =>
    intro j hj ha n hn
    obtain ⟨n, rfl⟩ : ∃ m, n = m + 1 := ⟨n - 1, by omega⟩
    rw [L14_7_succ]
    simp only [PV.toInt, leqI]
    rw [wrap_id (by omega) (by omega), decide_eq_true (by omega), cond_true, J14_9_eq]
    exact loop10 hk (by omega) (fun h => ih (j + 1) (by omega) h n (by omega)) 18 0 (by omega) ha k (by omega)

theorem loop4 (hk : Calls14 k) (h32 : 32 ≤ k) :
    ∀ (d i : Nat), i + d = 31 → Ahead s i 0 0 → ∀ n, d < n → L14_4 gate1 (EG qP k) k n (.str s) v1 v2 v3 v4 v5 (.int .i64 (i : Int)) = some (resP s, []) := by
  intro d
  induction d with
  | zero =>
    intro i hi ha n hn
    obtain ⟨n, rfl⟩ : ∃ m, n = m + 1 := ⟨n - 1, by omega⟩
    rw [L14_4_succ]
    simp only [PV.toInt, leqI]
    rw [decide_eq_false (by omega), cond_false, J14_15_eq]
    have : parseP s = none := by
      cases h : parseP s with
      | none => rfl
      | some f =>
        obtain ⟨i', j', c', h1, h2, h3, h4⟩ := ha f h
        omega
    rw [resP, this]; rfl
  | succ d ih =>
    intro i hi ha n hn
    obtain ⟨n, rfl⟩ : ∃ m, n = m + 1 := ⟨n - 1, by omega⟩
    rw [L14_4_succ]
    simp only [PV.toInt, leqI]
    rw [decide_eq_true (by omega), cond_true, J14_6_eq]
    exact loop7 hk h32 (by omega) (fun h => ih (i + 1) (by omega) h n (by omega)) (31 - i) 0 (by omega) ha k (by omega)
end

theorem ref14 (s : ByteArray) : Ev qP 14 [.pv .str (.str s)] (resP s) := by
  refine (calls14.and ⟨32, fun k hk => hk⟩).ev (p := fun k => Calls14 k ∧ 32 ≤ k) rfl fun k hk => ?_
  rw [R14]
  simp only [PV.toStr, seq]
  by_cases h : s.size ≤ 30
  · rw [decide_eq_false (by omega), cond_false, J14_3_eq]
    refine loop4 hk.1 hk.2 31 0 rfl (fun f hf => ?_) k (by omega)
    obtain ⟨i, j, c, h1, h2, h3⟩ := ok_ch (parse_some hf).1
    exact ⟨i, j, c, h1, h2, h3, by omega⟩
  · rw [decide_eq_true (by omega), cond_true]
    have : parseP s = none := by
      cases hp : parseP s with
      | none => rfl
      | some f =>
        obtain ⟨h1, h2⟩ := parse_some hp
        have := text_size h1
        rw [h2] at this
        omega
    rw [resP, this]; rfl

/-- The law. -/
theorem law4 {s : ByteArray} (hs : s.size ≤ 1048576) (f : Fmt) : Ev qP 4 [.pv .str (.str s), .pv (.st 23) f.pv] [.pv .bool (.bool true)] := by
  have hts : f.text.size ≤ 1048576 := by
    cases hv : f.ok with
    | true => have := text_size hv; omega
    | false =>
      have hv' : validB f.kind f.round f.over f.I f.F = false := hv
      simp only [Fmt.text, textP, hv', cond_false]
      decide
  refine ((((((parse13 hs).evt.and (ref14 s).evt).and (text15 qP f.kind f.round f.over f.I f.F).evt).and (text16 qP f.kind f.round f.over f.I f.F).evt).and (parse13 hts).evt).and ((valid17 qP f.kind f.round f.over f.I f.F).evt.and (awake_ev qP).evt)).ev rfl fun k hk => ?_
  obtain ⟨⟨⟨⟨⟨h13, h14⟩, h15⟩, h16⟩, h13b⟩, h17, h12⟩ := hk
  have t23 : (List.map (tyOf Tryd.prog) #[23, 31].toList) = [.st 23, .int .i64] := by kernel_rfl
  rw [show textP f.kind f.I f.F f.round f.over = f.text from rfl] at h15 h16
  rw [show validB f.kind f.round f.over f.I f.F = f.ok from rfl] at h17
  rw [resP] at h14
  rw [R4]
  generalize hA : (parseP s).getD zeroF = A at h13 h14
  generalize hC : (bif (parseP s).isSome then (0 : Int) else 3) = C at h13 h14
  simp only [Fmt.pv, fv] at h13 h14 h15 h16 h17 h13b ⊢
  simp only [PV.cell, PV.cells, List.getD_cons_succ, List.getD_cons_zero, PV.toInt, PV.toStr, PV.toBool, okRes, resPV, Ty.eq, Nat.beq_refl, decide_true, Bool.not_true, Bool.not_false, cond_true, cond_false] at h15 h16 h17 ⊢
  simp only [h13, h14, h15, h16, t23, okMany, okTup, resAt, nth, aoPV, PV.cell, PV.cells, List.getD_cons_succ, List.getD_cons_zero, PV.toInt, PV.toStr, PV.toBool, okRes, resPV, Ty.eq, Nat.beq_refl, decide_true, Bool.not_true, Bool.not_false, cond_true, cond_false, Nat.beq, beq_self_eq_true, eqI, Bool.and_true, Bool.and_self]
  simp only [J4_5_eq, J4_6_eq, h13b, h17, h12, t23, okMany, okTup, resAt, nth, aoPV, PV.cell, PV.cells, List.getD_cons_succ, List.getD_cons_zero, PV.toInt, PV.toStr, PV.toBool, okRes, resPV, Ty.eq, Nat.beq_refl, decide_true, Bool.not_true, Bool.not_false, cond_true, cond_false, Nat.beq, beq_self_eq_true, eqI, Bool.and_true, Bool.and_self]
  cases hv : f.ok with
  | false =>
    have ht : f.text = ⟨#[]⟩ := by
      have hv' : validB f.kind f.round f.over f.I f.F = false := hv
      simp only [Fmt.text, textP, hv', cond_false]
    have hp : parseP f.text = none := by
      cases hp : parseP f.text with
      | none => rfl
      | some g =>
        exfalso
        obtain ⟨h1, h2⟩ := parse_some hp
        obtain ⟨i, j, c, _, _, rfl⟩ := ok_ch h1
        have hl := text_list h1
        rw [h2, ht] at hl
        simp at hl
    rw [hp, ht]
    rfl
  | true =>
    rw [parse_text hv]
    simp only [Option.getD_some, Option.isSome_some, J4_9_eq, h12, PV.cell, PV.cells, List.getD_cons_succ, List.getD_cons_zero, PV.toInt, PV.toStr, PV.toBool, okRes, resPV, Ty.eq, Nat.beq_refl, decide_true, Bool.not_true, Bool.not_false, cond_true, cond_false, beq_self_eq_true, eqI, Bool.and_true, Bool.and_self]
end Go.V
