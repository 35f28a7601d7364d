/- quant.Parse walked: what it returns in each case, and that it leaves all old memory as it was. Conditions: those that each theorem names. -/
import Derived.Test.YtegnaiffnkklpaaDoorVP
import Derived.Test.YtegnaiffnkklpaaDoorVS
import Derived.WalkKit
import Derived.Below
import Derived.Deep.Draws
import Derived.Handy
import Derived.Lib.SmallJoins
import Derived.Laws.AppendOwn
import Derived.RegionTactic
import Derived.BigRegion
set_option maxRecDepth 100000
set_option linter.unusedSimpArgs false
set_option linter.unusedVariables false
namespace Go.V
open Go.Proofs Go.RowKit

theorem base0_ok : CallOk Tryd.prog (add64B 63) := add64B_ok Tryd.func63 (by kernel_rfl) (by kernel_rfl) (by kernel_rfl) (by kernel_rfl)
theorem baseQ_ok {q : CallF} (h : CallOk Tryd.prog (fun f az => bif Nat.beq f 13 then q f az else none)) : CallOk Tryd.prog (baseQ q) := by
  refine ⟨fun f az res back hc => ?_⟩
  cases hf : Nat.beq f 13 with
  | true => exact h.ok f az res back (by simpa only [baseQ, hf, cond_true] using hc)
  | false => exact base0_ok.ok f az res back (by simpa only [baseQ, hf, cond_false] using hc)
theorem noQ_ok : CallOk Tryd.prog (baseQ fun _ _ => none) := baseQ_ok ⟨fun f az res back h => by cases hf : Nat.beq f 13 <;> rw [hf] at h <;> cases h⟩

/-- A format's value. -/
def fval (kind : ByteArray) (I F : Int) (round over : ByteArray) : Value := .agg #[.string kind, .int .i64 I, .int .i64 F, .string round, .string over]

theorem rep_fv {w : World} {g : G} (kind : ByteArray) (I F : Int) (round over : ByteArray) : PRep Tryd.prog w g (.st 23) (fv kind I F round over) (fval kind I F round over) := by
  have hc : cellTys Tryd.prog deep 23 = [.str, .int .i64, .int .i64, .str, .str] := by kernel_rfl
  refine .st 23 _ [.string kind, .int .i64 I, .int .i64 F, .string round, .string over] (by rw [hc]; rfl) (by rw [hc]; rfl) (fun i ty x c h1 h2 h3 => ?_)
  rw [hc] at h1
  match i with
  | 0 => simp at h1 h2 h3; subst h1 h2 h3; exact .str _
  | 1 => simp at h1 h2 h3; subst h1 h2 h3; exact .int _ _
  | 2 => simp at h1 h2 h3; subst h1 h2 h3; exact .int _ _
  | 3 => simp at h1 h2 h3; subst h1 h2 h3; exact .str _
  | 4 => simp at h1 h2 h3; subst h1 h2 h3; exact .str _
  | i + 5 => simp at h1

/-- quant.Text, called. -/
theorem text_c (W : World) (hvr : VarsOk Tryd.prog W gFree) (kind : ByteArray) (I F : Int) (round over : ByteArray) :
    Calls Tryd.prog 15 #[fval kind I F round over] W fun e w' => e = .returned (.string (textP kind I F round over)) ∧ Below W.heap.size W w' := by
  obtain ⟨K, hK⟩ := text15 (fun _ _ => none) kind round over I F
  have hc := (evG_sound Tryd.prog H0 noQ_ok K).ok 15 _ _ _ (hK K (Nat.le_refl _)) [fval kind I F round over] W gFree ⟨rep_fv _ _ _ _ _, trivial⟩ (fun _ _ => rfl) hvr (fun b s p h => by cases h)
  have := hc.enter Tryd.func15 (by kernel_rfl) (of_decide_eq_true (by kernel_rfl))
  refine this.mono fun e w' h => ?_
  obtain ⟨v, g', rfl, hfr, hres, _, _, _⟩ := h
  obtain ⟨h1, h2⟩ := hres
  have h3 := h1.pv_inv
  rw [← h2 (by simp)] at h3
  obtain ⟨s, e1, e2⟩ := h3.str_inv
  simp only [PV.str.injEq] at e1
  exact ⟨by rw [e2, ← e1], ⟨hfr.os, hfr.tape, hfr.output, hfr.size, fun b hb => (hfr.free b hb rfl).2⟩⟩
end Go.V

set_option maxRecDepth 100000
set_option linter.unusedSimpArgs false
set_option linter.unusedVariables false
namespace Go.V
open Go.Proofs Go.RowKit

section
variable {w W W' : World}
theorem b_alloc (h : Below w.heap.size w W) (o : Obj) : Below w.heap.size w (W.alloc o) := h.alloc h.size o
theorem b_drewN (h : Below w.heap.size w W) (n : Nat) : Below w.heap.size w (W.drewN n) := h.trans ⟨rfl, rfl, rfl, Nat.le_refl _, fun _ _ => rfl⟩
theorem b_setCell (h : Below w.heap.size w W) {p : Addr} (hp : w.heap.size ≤ p.block) (u : Value) : Below w.heap.size w (W.setCell p u) := h.setCell hp u
theorem b_bytes (h : Below w.heap.size w W) (e : TypeId) (s : ByteArray) : Below w.heap.size w (Lib.bytesWorld W e s) := h.trans (Go.Joins.below_bytesWorld _ W e s h.size)
theorem b_more (h : Below w.heap.size w W) (k : Below W.heap.size W W') : Below w.heap.size w W' := h.trans (k.mono h.size)

theorem cell_below {b : Nat} {v : Value} (h : Below w.heap.size w W) (hc : w.cell? ⟨b, 0, none⟩ = some v) : W.cell? ⟨b, 0, none⟩ = some v := by
  have hb : b < w.heap.size := World.block_lt_of_cell? _ _ hc
  rw [World.cell?_of_block (w := w) (h.block b hb)]; exact hc

theorem vars_below (h : VarsOk Tryd.prog w gFree) (k : Below w.heap.size w W) : VarsOk Tryd.prog W gFree := h.keep k.size (fun b hb _ => ⟨rfl, k.block b hb⟩)
end

/-- What the callees of quant.Parse do. -/
structure Cts (w : World) (s K T R : ByteArray) (ok : Bool) (L : List ByteArray) : Prop where
  vars : VarsOk Tryd.prog w gFree
  cut : ∀ W, Below w.heap.size w W → Calls Tryd.prog 27 #[.string s, .string ⟨#[40]⟩] W fun e w' => e = .returned (.tuple #[.string K, .string T, .bool ok]) ∧ ∃ n, w' = W.drewN n
  trim : ∀ W, Calls Tryd.prog 29 #[.string T, .string ⟨#[41]⟩] W fun e w' => e = .returned (.string R) ∧ w' = W
  split : ∀ W, Below w.heap.size w W → Calls Tryd.prog 28 #[.string R, .string ⟨#[44]⟩] W fun e w' =>
      e = .returned (.slice (some ⟨W.heap.size, 0, none⟩) L.length L.length) ∧ w' = W.alloc (.cells (L.map Value.string).toArray 9)

section
variable {w : World} {s K T R : ByteArray} {L : List ByteArray}

theorem parse_no (C : Cts w s K T R false L) :
    Calls Tryd.prog 13 #[.string s] w fun e w' => e = .returned (.tuple #[fval ⟨#[]⟩ 0 0 ⟨#[]⟩ ⟨#[]⟩, .int .i64 3]) ∧ Below w.heap.size w w' := by
  have hcut := C.cut
  have htrim := C.trim
  have hsplit := C.split
  go_enter Tryd.func13, Tryd.ntmps13
  go_wp2_with (first
    | (go_at_call 27; refine (hcut _ (by repeat first | with_reducible exact Below.refl _ _ | with_reducible apply b_alloc | with_reducible apply b_drewN)).mono ?_; rintro e w' ⟨rfl, n, hw⟩; rw [hw])
    | (go_at_call 29; refine (htrim _).mono ?_; rintro e w' ⟨rfl, hw⟩; rw [hw])
    | (go_at_call 28; refine (hsplit _ (by repeat first | with_reducible exact Below.refl _ _ | with_reducible apply b_alloc | with_reducible apply b_drewN)).mono ?_; rintro e w' ⟨rfl, hw⟩; rw [hw]))
  all_goals go_returns
  all_goals exact ⟨rfl, by repeat first | with_reducible exact Below.refl _ _ | with_reducible apply b_alloc | with_reducible apply b_drewN | (with_reducible refine b_setCell ?_ (Nat.le_refl _) _)⟩

theorem parse_len (C : Cts w s K T R true L) (hl : L.length ≠ 4) :
    Calls Tryd.prog 13 #[.string s] w fun e w' => e = .returned (.tuple #[fval ⟨#[]⟩ 0 0 ⟨#[]⟩ ⟨#[]⟩, .int .i64 3]) ∧ Below w.heap.size w w' := by
  have hcut := C.cut
  have htrim := C.trim
  have hsplit := C.split
  have hl' : ¬ ((L.length : Int) = 4) := by omega
  go_enter Tryd.func13, Tryd.ntmps13
  go_wp2_with (first
    | (go_at_call 27; refine (hcut _ (by repeat first | with_reducible exact Below.refl _ _ | with_reducible apply b_alloc | with_reducible apply b_drewN)).mono ?_; rintro e w' ⟨rfl, n, hw⟩; rw [hw])
    | (go_at_call 29; refine (htrim _).mono ?_; rintro e w' ⟨rfl, hw⟩; rw [hw])
    | (go_at_call 28; refine (hsplit _ (by repeat first | with_reducible exact Below.refl _ _ | with_reducible apply b_alloc | with_reducible apply b_drewN)).mono ?_; rintro e w' ⟨rfl, hw⟩; rw [hw]))
  all_goals go_returns
  all_goals exact ⟨rfl, by repeat first | with_reducible exact Below.refl _ _ | with_reducible apply b_alloc | with_reducible apply b_drewN | (with_reducible refine b_setCell ?_ (Nat.le_refl _) _)⟩

theorem parse_big {a b c d : ByteArray} (C : Cts w s K T R true [a, b, c, d]) (hl : 2 < a.size ∨ 2 < b.size) :
    Calls Tryd.prog 13 #[.string s] w fun e w' => e = .returned (.tuple #[fval ⟨#[]⟩ 0 0 ⟨#[]⟩ ⟨#[]⟩, .int .i64 3]) ∧ Below w.heap.size w w' := by
  have hcut := C.cut
  have htrim := C.trim
  have hsplit := C.split
  go_enter Tryd.func13, Tryd.ntmps13
  by_cases ha : 2 < a.size
  · have ha' : (2 : Int) < (a.size : Int) := by omega
    go_wp2_with (first
      | (go_at_call 27; refine (hcut _ (by repeat first | with_reducible exact Below.refl _ _ | with_reducible apply b_alloc | with_reducible apply b_drewN)).mono ?_; rintro e w' ⟨rfl, n, hw⟩; rw [hw])
      | (go_at_call 29; refine (htrim _).mono ?_; rintro e w' ⟨rfl, hw⟩; rw [hw])
      | (go_at_call 28; refine (hsplit _ (by repeat first | with_reducible exact Below.refl _ _ | with_reducible apply b_alloc | with_reducible apply b_drewN)).mono ?_; rintro e w' ⟨rfl, hw⟩; rw [hw]))
    all_goals go_returns
    all_goals exact ⟨rfl, by repeat first | with_reducible exact Below.refl _ _ | with_reducible apply b_alloc | with_reducible apply b_drewN | (with_reducible refine b_setCell ?_ (Nat.le_refl _) _)⟩
  · have ha' : ¬ (2 : Int) < (a.size : Int) := by omega
    have hb' : (2 : Int) < (b.size : Int) := by omega
    go_wp2_with (first
      | (go_at_call 27; refine (hcut _ (by repeat first | with_reducible exact Below.refl _ _ | with_reducible apply b_alloc | with_reducible apply b_drewN)).mono ?_; rintro e w' ⟨rfl, n, hw⟩; rw [hw])
      | (go_at_call 29; refine (htrim _).mono ?_; rintro e w' ⟨rfl, hw⟩; rw [hw])
      | (go_at_call 28; refine (hsplit _ (by repeat first | with_reducible exact Below.refl _ _ | with_reducible apply b_alloc | with_reducible apply b_drewN)).mono ?_; rintro e w' ⟨rfl, hw⟩; rw [hw]))
    all_goals go_returns
    all_goals exact ⟨rfl, by repeat first | with_reducible exact Below.refl _ _ | with_reducible apply b_alloc | with_reducible apply b_drewN | (with_reducible refine b_setCell ?_ (Nat.le_refl _) _)⟩
end
end Go.V

set_option maxRecDepth 100000
set_option linter.unusedSimpArgs false
set_option linter.unusedVariables false
namespace Go.V
open Go.Proofs Go.RowKit

/-- quant.Parse's own memory, once the parts are laid. -/
structure Pst (w W : World) (a b c d : ByteArray) : Prop where
  below : Below w.heap.size w W
  res : W.heap[w.heap.size]? = some (.cells #[.string ⟨#[]⟩, .int .i64 0, .int .i64 0, .string ⟨#[]⟩, .string ⟨#[]⟩] 23 (0, 0))
  lst : W.heap[w.heap.size + 1]? = some (.cells #[.string a, .string b, .string c, .string d] 9 (0, 0))

section
variable {w W W' : World} {s K T R a b c d : ByteArray} {L : List ByteArray}

theorem Pst.more (h : Pst w W a b c d) (k : Below W.heap.size W W') : Pst w W' a b c d := by
  have h1 : w.heap.size < W.heap.size := by
    rcases Nat.lt_or_ge w.heap.size W.heap.size with h' | h'
    · exact h'
    · have := h.res; rw [Array.getElem?_eq_none h'] at this; cases this
  have h2 : w.heap.size + 1 < W.heap.size := by
    rcases Nat.lt_or_ge (w.heap.size + 1) W.heap.size with h' | h'
    · exact h'
    · have := h.lst; rw [Array.getElem?_eq_none h'] at this; cases this
  exact ⟨b_more h.below k, by rw [k.block _ h1]; exact h.res, by rw [k.block _ h2]; exact h.lst⟩

theorem pst_init (w : World) (n : Nat) (a b c d : ByteArray) :
    Pst w (((w.alloc (.cells #[.string ⟨#[]⟩, .int .i64 0, .int .i64 0, .string ⟨#[]⟩, .string ⟨#[]⟩] 23)).drewN n).alloc (.cells #[.string a, .string b, .string c, .string d] 9)) a b c d := by
  refine ⟨?_, ?_, ?_⟩
  · repeat first | with_reducible exact Below.refl _ _ | with_reducible apply b_alloc | with_reducible apply b_drewN
  · show ((w.heap.push _).push _)[_]? = _
    rw [Array.getElem?_push, Array.size_push, if_neg (by omega), Array.getElem?_push, if_pos rfl]
  · show ((w.heap.push _).push _)[_]? = _
    rw [Array.getElem?_push, Array.size_push, if_pos rfl]

theorem Pst.l0 (h : Pst w W a b c d) : W.cell? ⟨w.heap.size + 1, 0, none⟩ = some (.string a) := by simp [World.cell?, h.lst]
theorem Pst.l1 (h : Pst w W a b c d) : W.cell? ⟨w.heap.size + 1, 1, none⟩ = some (.string b) := by simp [World.cell?, h.lst]
theorem Pst.l2 (h : Pst w W a b c d) : W.cell? ⟨w.heap.size + 1, 2, none⟩ = some (.string c) := by simp [World.cell?, h.lst]
theorem Pst.l3 (h : Pst w W a b c d) : W.cell? ⟨w.heap.size + 1, 3, none⟩ = some (.string d) := by simp [World.cell?, h.lst]
theorem Pst.r0 (h : Pst w W a b c d) : W.cell? ⟨w.heap.size, 0, none⟩ = some (.string ⟨#[]⟩) := by simp [World.cell?, h.res]
theorem Pst.r1 (h : Pst w W a b c d) : W.cell? ⟨w.heap.size, 1, none⟩ = some (.int .i64 0) := by simp [World.cell?, h.res]
theorem Pst.r2 (h : Pst w W a b c d) : W.cell? ⟨w.heap.size, 2, none⟩ = some (.int .i64 0) := by simp [World.cell?, h.res]
theorem Pst.r3 (h : Pst w W a b c d) : W.cell? ⟨w.heap.size, 3, none⟩ = some (.string ⟨#[]⟩) := by simp [World.cell?, h.res]
theorem Pst.r4 (h : Pst w W a b c d) : W.cell? ⟨w.heap.size, 4, none⟩ = some (.string ⟨#[]⟩) := by simp [World.cell?, h.res]
theorem Pst.z (h : Pst w W a b c d) (o : Nat) : W.frozen? ⟨w.heap.size, o, none⟩ = false := by simp [World.frozen?, h.res]

theorem fcell {X : Obj} (h : Below (W.alloc X).drew.heap.size (W.alloc X).drew W') {j : Nat} {v : Value} (hv : (W.alloc X).cell? ⟨W.heap.size, j, none⟩ = some v) : W'.cell? ⟨W.heap.size, j, none⟩ = some v := by
  rw [h.cell (by show W.heap.size < (W.heap.push _).size; simp)]; exact hv
theorem Pst.more2 (h : Pst w W a b c d) {X : Obj} (k : Below (W.alloc X).drew.heap.size (W.alloc X).drew W') : Pst w W' a b c d :=
  h.more (b_more ((Below.refl _ _).alloc (Nat.le_refl _) X).drew k)
theorem Pst.b2 (h : Pst w W a b c d) (X : Obj) : Below w.heap.size w (W.alloc X).drew := (h.more ((Below.refl _ _).alloc (Nat.le_refl _) X).drew).below

def av (x : ByteArray) : Int := (Lib.atoi x.data.toList).getD 0

theorem atoi_ok {x : ByteArray} (h : (Lib.atoi x.data.toList).isSome = true) (hl : x.size ≤ 2) (W : World) :
    Calls Tryd.prog 30 #[.string x] W fun e w' => e = .returned (.tuple #[.int .i64 (av x), .nilIface]) ∧ Below W.heap.size W w' := by
  obtain ⟨n, hn⟩ := Option.isSome_iff_exists.1 h
  refine (Tryd.strconv_Atoi x n (by omega) hn W).mono ?_
  rintro e w' ⟨rfl, t, rfl⟩
  exact ⟨by unfold av; rw [hn]; rfl, b_bytes (Below.refl _ _) _ _⟩

theorem atoi_no {x : ByteArray} (h : Lib.atoi x.data.toList = none) (hl : x.size ≤ 2) (W : World) (hv : VarsOk Tryd.prog W gFree) :
    Calls Tryd.prog 30 #[.string x] W fun e w' => ∃ N, e = .returned (.tuple #[.int .i64 0, .iface 84 (.pointer (some ⟨N, 0, none⟩))]) ∧ Below W.heap.size W w' := by
  obtain ⟨_, _, h3⟩ := hv "strconv.ErrSyntax" 1 (by simp [libVars]) (by kernel_rfl)
  simp only [varIs] at h3
  rw [if_neg (by decide)] at h3
  obtain ⟨v, h3, h4⟩ := h3
  refine (Tryd.strconv_Atoi_err x (by omega) h v W h3 h4).mono ?_
  rintro e w' ⟨N, rfl, _, _, hb⟩
  exact ⟨N, rfl, hb⟩

theorem parse_yes (C : Cts w s K T R true [a, b, c, d]) (ha : a.size ≤ 2) (hb : b.size ≤ 2) (na : (Lib.atoi a.data.toList).isSome = true) (nb : (Lib.atoi b.data.toList).isSome = true) (ht : textP K (av a) (av b) c d = s) :
    Calls Tryd.prog 13 #[.string s] w fun e w' => e = .returned (.tuple #[fval K (av a) (av b) c d, .int .i64 0]) ∧ Below w.heap.size w w' := by
  have hcut := C.cut
  have htrim := C.trim
  have hsplit := C.split
  have hvars := C.vars
  have hata : ∀ (W : World), Below w.heap.size w W → Calls Tryd.prog 30 #[.string a] W fun e w' => ∃ N : Nat, e = .returned (.tuple #[.int .i64 (av a), .nilIface]) ∧ Below W.heap.size W w' := fun W _ => (atoi_ok na ha W).mono fun e w' h => ⟨0, h⟩
  have hatb : ∀ (W : World), Below w.heap.size w W → Calls Tryd.prog 30 #[.string b] W fun e w' => ∃ N : Nat, e = .returned (.tuple #[.int .i64 (av b), .nilIface]) ∧ Below W.heap.size W w' := fun W _ => (atoi_ok nb hb W).mono fun e w' h => ⟨0, h⟩
  have htx : ∀ W, Below w.heap.size w W → Calls Tryd.prog 15 #[fval K (av a) (av b) c d] W fun e w' => e = .returned (.string s) ∧ Below W.heap.size W w' := by
    intro W h
    rw [← ht]; exact text_c W (vars_below hvars h) _ _ _ _ _
  have ha' : ¬ (2 : Int) < (a.size : Int) := by omega
  have hb' : ¬ (2 : Int) < (b.size : Int) := by omega
  have hab : decide ((2 : Int) < (a.size : Int)) = false := decide_eq_false ha'
  have hbb : decide ((2 : Int) < (b.size : Int)) = false := decide_eq_false hb'
  clear C hvars na nb
  go_enter Tryd.func13, Tryd.ntmps13
  go_wp2_with (first
    | (go_at_call 27; refine (hcut _ (by repeat first | with_reducible exact Below.refl _ _ | with_reducible apply b_alloc | with_reducible apply b_drewN)).mono ?_; rintro e w' ⟨rfl, n, hw⟩; rw [hw])
    | (go_at_call 29; refine (htrim _).mono ?_; rintro e w' ⟨rfl, hw⟩; rw [hw])
    | (go_at_call 28; refine (hsplit _ (by repeat first | with_reducible exact Below.refl _ _ | with_reducible apply b_alloc | with_reducible apply b_drewN)).mono ?_; rintro e w' ⟨rfl, hw⟩; rw [hw])
    | (go_at_call 30; first
        | (with_reducible refine (hata _ (by repeat first | with_reducible exact Below.refl _ _ | with_reducible apply b_alloc | with_reducible apply b_drewN)).mono ?_; rintro e w' ⟨N, rfl, hbel⟩; (first | have P := Pst.more (by assumption) hbel | have P := (pst_init _ _ _ _ _ _).more hbel); have l0 := P.l0; have l1 := P.l1; have l2 := P.l2; have l3 := P.l3; have r0 := P.r0; have r1 := P.r1; have r2 := P.r2; have r3 := P.r3; have r4 := P.r4; have z0 := P.z 0; have z1 := P.z 1; have z2 := P.z 2; have z3 := P.z 3; have z4 := P.z 4)
        | (with_reducible refine (hatb _ (Pst.below (by assumption))).mono ?_; rintro e w' ⟨N, rfl, hbel⟩; (first | have P := Pst.more (by assumption) hbel | have P := (pst_init _ _ _ _ _ _).more hbel); have l0 := P.l0; have l1 := P.l1; have l2 := P.l2; have l3 := P.l3; have r0 := P.r0; have r1 := P.r1; have r2 := P.r2; have r3 := P.r3; have r4 := P.r4; have z0 := P.z 0; have z1 := P.z 1; have z2 := P.z 2; have z3 := P.z 3; have z4 := P.z 4)))
  have m2 : ∀ o, (w'.alloc o).cell? ⟨w.heap.size + 1, 2, none⟩ = some (.string c) := fun o => (P.more ((Below.refl _ _).alloc (Nat.le_refl _) o)).l2
  have m3 : ∀ o, (w'.alloc o).cell? ⟨w.heap.size + 1, 3, none⟩ = some (.string d) := fun o => (P.more ((Below.refl _ _).alloc (Nat.le_refl _) o)).l3
  go_region
  have hbW := P.b2 (.cells #[.string K, .int .i64 (av a), .int .i64 (av b), .string c, .string d] 23)
  go_wp2_with (first
    | (go_at_call 15; refine (htx _ hbW).mono ?_; rintro e w'' ⟨rfl, hb3⟩; have P3 := P.more2 hb3; have r0 := P3.r0; have r1 := P3.r1; have r2 := P3.r2; have r3 := P3.r3; have r4 := P3.r4; have z0 := P3.z 0; have z1 := P3.z 1; have z2 := P3.z 2; have z3 := P3.z 3; have z4 := P3.z 4;
       have f0 := fcell hb3 (j := 0) (v := .string K) (by go_simp); have f1 := fcell hb3 (j := 1) (v := .int .i64 (av a)) (by go_simp); have f2 := fcell hb3 (j := 2) (v := .int .i64 (av b)) (by go_simp); have f3 := fcell hb3 (j := 3) (v := .string c) (by go_simp); have f4 := fcell hb3 (j := 4) (v := .string d) (by go_simp)))
  (try simp only [Exit.inBlock, Exit.then])
  refine bodyPost_ret (by simp [results, Tryd.results13, go_sem, r0, r1, r2, r3, r4]; try rfl) rfl ?_
  refine ⟨rfl, ?_⟩
  have hp := P3.below
  repeat first | with_reducible exact hp | (with_reducible refine b_setCell ?_ (Nat.le_refl _) _)

theorem parse_ne (C : Cts w s K T R true [a, b, c, d]) (ha : a.size ≤ 2) (hb : b.size ≤ 2) (na : (Lib.atoi a.data.toList).isSome = true) (nb : (Lib.atoi b.data.toList).isSome = true) (ht : textP K (av a) (av b) c d ≠ s) :
    Calls Tryd.prog 13 #[.string s] w fun e w' => e = .returned (.tuple #[fval ⟨#[]⟩ 0 0 ⟨#[]⟩ ⟨#[]⟩, .int .i64 3]) ∧ Below w.heap.size w w' := by
  have hcut := C.cut
  have htrim := C.trim
  have hsplit := C.split
  have hvars := C.vars
  have hata : ∀ (W : World), Below w.heap.size w W → Calls Tryd.prog 30 #[.string a] W fun e w' => ∃ N : Nat, e = .returned (.tuple #[.int .i64 (av a), .nilIface]) ∧ Below W.heap.size W w' := fun W _ => (atoi_ok na ha W).mono fun e w' h => ⟨0, h⟩
  have hatb : ∀ (W : World), Below w.heap.size w W → Calls Tryd.prog 30 #[.string b] W fun e w' => ∃ N : Nat, e = .returned (.tuple #[.int .i64 (av b), .nilIface]) ∧ Below W.heap.size W w' := fun W _ => (atoi_ok nb hb W).mono fun e w' h => ⟨0, h⟩
  obtain ⟨t, htt⟩ : ∃ t, t = textP K (av a) (av b) c d := ⟨_, rfl⟩
  rw [← htt] at ht
  have htx : ∀ W, Below w.heap.size w W → Calls Tryd.prog 15 #[fval K (av a) (av b) c d] W fun e w' => e = .returned (.string t) ∧ Below W.heap.size W w' := by
    intro W h
    rw [htt]; exact text_c W (vars_below hvars h) _ _ _ _ _
  have htd : ¬ t.data.toList = s.data.toList := fun h => ht (by cases t; cases s; congr 1; exact Array.toList_inj.1 h)
  have htd2 : (t.toList == s.toList) = false := by rw [ByteArray.toList_eq, ByteArray.toList_eq]; simpa using htd
  clear htt
  have ha' : ¬ (2 : Int) < (a.size : Int) := by omega
  have hb' : ¬ (2 : Int) < (b.size : Int) := by omega
  have hab : decide ((2 : Int) < (a.size : Int)) = false := decide_eq_false ha'
  have hbb : decide ((2 : Int) < (b.size : Int)) = false := decide_eq_false hb'
  clear C hvars na nb
  go_enter Tryd.func13, Tryd.ntmps13
  go_wp2_with (first
    | (go_at_call 27; refine (hcut _ (by repeat first | with_reducible exact Below.refl _ _ | with_reducible apply b_alloc | with_reducible apply b_drewN)).mono ?_; rintro e w' ⟨rfl, n, hw⟩; rw [hw])
    | (go_at_call 29; refine (htrim _).mono ?_; rintro e w' ⟨rfl, hw⟩; rw [hw])
    | (go_at_call 28; refine (hsplit _ (by repeat first | with_reducible exact Below.refl _ _ | with_reducible apply b_alloc | with_reducible apply b_drewN)).mono ?_; rintro e w' ⟨rfl, hw⟩; rw [hw])
    | (go_at_call 30; first
        | (with_reducible refine (hata _ (by repeat first | with_reducible exact Below.refl _ _ | with_reducible apply b_alloc | with_reducible apply b_drewN)).mono ?_; rintro e w' ⟨N, rfl, hbel⟩; (first | have P := Pst.more (by assumption) hbel | have P := (pst_init _ _ _ _ _ _).more hbel); have l0 := P.l0; have l1 := P.l1; have l2 := P.l2; have l3 := P.l3; have r0 := P.r0; have r1 := P.r1; have r2 := P.r2; have r3 := P.r3; have r4 := P.r4; have z0 := P.z 0; have z1 := P.z 1; have z2 := P.z 2; have z3 := P.z 3; have z4 := P.z 4)
        | (with_reducible refine (hatb _ (Pst.below (by assumption))).mono ?_; rintro e w' ⟨N, rfl, hbel⟩; (first | have P := Pst.more (by assumption) hbel | have P := (pst_init _ _ _ _ _ _).more hbel); have l0 := P.l0; have l1 := P.l1; have l2 := P.l2; have l3 := P.l3; have r0 := P.r0; have r1 := P.r1; have r2 := P.r2; have r3 := P.r3; have r4 := P.r4; have z0 := P.z 0; have z1 := P.z 1; have z2 := P.z 2; have z3 := P.z 3; have z4 := P.z 4)))
  have m2 : ∀ o, (w'.alloc o).cell? ⟨w.heap.size + 1, 2, none⟩ = some (.string c) := fun o => (P.more ((Below.refl _ _).alloc (Nat.le_refl _) o)).l2
  have m3 : ∀ o, (w'.alloc o).cell? ⟨w.heap.size + 1, 3, none⟩ = some (.string d) := fun o => (P.more ((Below.refl _ _).alloc (Nat.le_refl _) o)).l3
  go_region
  have hbW := P.b2 (.cells #[.string K, .int .i64 (av a), .int .i64 (av b), .string c, .string d] 23)
  go_wp2_with (first
    | (go_at_call 15; refine (htx _ hbW).mono ?_; rintro e w'' ⟨rfl, hb3⟩; have P3 := P.more2 hb3; have r0 := P3.r0; have r1 := P3.r1; have r2 := P3.r2; have r3 := P3.r3; have r4 := P3.r4; have z0 := P3.z 0; have z1 := P3.z 1; have z2 := P3.z 2; have z3 := P3.z 3; have z4 := P3.z 4;
       have f0 := fcell hb3 (j := 0) (v := .string K) (by go_simp); have f1 := fcell hb3 (j := 1) (v := .int .i64 (av a)) (by go_simp); have f2 := fcell hb3 (j := 2) (v := .int .i64 (av b)) (by go_simp); have f3 := fcell hb3 (j := 3) (v := .string c) (by go_simp); have f4 := fcell hb3 (j := 4) (v := .string d) (by go_simp)))
  (try simp only [Exit.inBlock, Exit.then])
  refine bodyPost_ret (by simp [results, Tryd.results13, go_sem, r0, r1, r2, r3, r4]; try rfl) rfl ?_
  refine ⟨rfl, ?_⟩
  have hp := P3.below
  repeat first | with_reducible exact hp | (with_reducible refine b_setCell ?_ (Nat.le_refl _) _)

theorem parse_na (C : Cts w s K T R true [a, b, c, d]) (ha : a.size ≤ 2) (hb : b.size ≤ 2) (na : Lib.atoi a.data.toList = none) (nb : (Lib.atoi b.data.toList).isSome = true) :
    Calls Tryd.prog 13 #[.string s] w fun e w' => e = .returned (.tuple #[fval ⟨#[]⟩ 0 0 ⟨#[]⟩ ⟨#[]⟩, .int .i64 3]) ∧ Below w.heap.size w w' := by
  have hcut := C.cut
  have htrim := C.trim
  have hsplit := C.split
  have hvars := C.vars
  have hata : ∀ (W : World), Below w.heap.size w W → Calls Tryd.prog 30 #[.string a] W fun e w' => ∃ N : Nat, e = .returned (.tuple #[.int .i64 0, .iface 84 (.pointer (some ⟨N, 0, none⟩))]) ∧ Below W.heap.size W w' := fun W h => atoi_no na ha W (vars_below hvars h)
  have hatb : ∀ (W : World), Below w.heap.size w W → Calls Tryd.prog 30 #[.string b] W fun e w' => ∃ N : Nat, e = .returned (.tuple #[.int .i64 (av b), .nilIface]) ∧ Below W.heap.size W w' := fun W _ => (atoi_ok nb hb W).mono fun e w' h => ⟨0, h⟩
  have ha' : ¬ (2 : Int) < (a.size : Int) := by omega
  have hb' : ¬ (2 : Int) < (b.size : Int) := by omega
  have hab : decide ((2 : Int) < (a.size : Int)) = false := decide_eq_false ha'
  have hbb : decide ((2 : Int) < (b.size : Int)) = false := decide_eq_false hb'
  clear C hvars na nb
  go_enter Tryd.func13, Tryd.ntmps13
  go_wp2_with (first
    | (go_at_call 27; refine (hcut _ (by repeat first | with_reducible exact Below.refl _ _ | with_reducible apply b_alloc | with_reducible apply b_drewN)).mono ?_; rintro e w' ⟨rfl, n, hw⟩; rw [hw])
    | (go_at_call 29; refine (htrim _).mono ?_; rintro e w' ⟨rfl, hw⟩; rw [hw])
    | (go_at_call 28; refine (hsplit _ (by repeat first | with_reducible exact Below.refl _ _ | with_reducible apply b_alloc | with_reducible apply b_drewN)).mono ?_; rintro e w' ⟨rfl, hw⟩; rw [hw])
    | (go_at_call 30; first
        | (with_reducible refine (hata _ (by repeat first | with_reducible exact Below.refl _ _ | with_reducible apply b_alloc | with_reducible apply b_drewN)).mono ?_; rintro e w' ⟨N, rfl, hbel⟩; (first | have P := Pst.more (by assumption) hbel | have P := (pst_init _ _ _ _ _ _).more hbel); have l0 := P.l0; have l1 := P.l1; have l2 := P.l2; have l3 := P.l3; have r0 := P.r0; have r1 := P.r1; have r2 := P.r2; have r3 := P.r3; have r4 := P.r4; have z0 := P.z 0; have z1 := P.z 1; have z2 := P.z 2; have z3 := P.z 3; have z4 := P.z 4)
        | (with_reducible refine (hatb _ (Pst.below (by assumption))).mono ?_; rintro e w' ⟨N, rfl, hbel⟩; (first | have P := Pst.more (by assumption) hbel | have P := (pst_init _ _ _ _ _ _).more hbel); have l0 := P.l0; have l1 := P.l1; have l2 := P.l2; have l3 := P.l3; have r0 := P.r0; have r1 := P.r1; have r2 := P.r2; have r3 := P.r3; have r4 := P.r4; have z0 := P.z 0; have z1 := P.z 1; have z2 := P.z 2; have z3 := P.z 3; have z4 := P.z 4)))
  have m2 : ∀ o, (w'.alloc o).cell? ⟨w.heap.size + 1, 2, none⟩ = some (.string c) := fun o => (P.more ((Below.refl _ _).alloc (Nat.le_refl _) o)).l2
  have m3 : ∀ o, (w'.alloc o).cell? ⟨w.heap.size + 1, 3, none⟩ = some (.string d) := fun o => (P.more ((Below.refl _ _).alloc (Nat.le_refl _) o)).l3
  go_region
  have hbW := P.b2 (.cells #[.string K, .int .i64 (0), .int .i64 (av b), .string c, .string d] 23)
  have P3 : Pst w (w'.alloc (.cells #[.string K, .int .i64 (0), .int .i64 (av b), .string c, .string d] 23)).drew a b c d := P.more ((Below.refl _ _).alloc (Nat.le_refl _) _).drew
  revert P3 hbW
  generalize (w'.alloc (.cells #[.string K, .int .i64 (0), .int .i64 (av b), .string c, .string d] 23)).drew = w3
  intro hbW P3
  have r0 := P3.r0
  have r1 := P3.r1
  have r2 := P3.r2
  have r3 := P3.r3
  have r4 := P3.r4
  have z0 := P3.z 0
  have z1 := P3.z 1
  have z2 := P3.z 2
  have z3 := P3.z 3
  have z4 := P3.z 4
  go_wp2_with fail
  (try simp only [Exit.inBlock, Exit.then])
  refine bodyPost_ret (by simp [results, Tryd.results13, go_sem, r0, r1, r2, r3, r4]; try rfl) rfl ?_
  refine ⟨rfl, ?_⟩
  repeat first | with_reducible exact hbW | (with_reducible refine b_setCell ?_ (Nat.le_refl _) _)

theorem parse_nb (C : Cts w s K T R true [a, b, c, d]) (ha : a.size ≤ 2) (hb : b.size ≤ 2) (na : (Lib.atoi a.data.toList).isSome = true) (nb : Lib.atoi b.data.toList = none) :
    Calls Tryd.prog 13 #[.string s] w fun e w' => e = .returned (.tuple #[fval ⟨#[]⟩ 0 0 ⟨#[]⟩ ⟨#[]⟩, .int .i64 3]) ∧ Below w.heap.size w w' := by
  have hcut := C.cut
  have htrim := C.trim
  have hsplit := C.split
  have hvars := C.vars
  have hata : ∀ (W : World), Below w.heap.size w W → Calls Tryd.prog 30 #[.string a] W fun e w' => ∃ N : Nat, e = .returned (.tuple #[.int .i64 (av a), .nilIface]) ∧ Below W.heap.size W w' := fun W _ => (atoi_ok na ha W).mono fun e w' h => ⟨0, h⟩
  have hatb : ∀ (W : World), Below w.heap.size w W → Calls Tryd.prog 30 #[.string b] W fun e w' => ∃ N : Nat, e = .returned (.tuple #[.int .i64 0, .iface 84 (.pointer (some ⟨N, 0, none⟩))]) ∧ Below W.heap.size W w' := fun W h => atoi_no nb hb W (vars_below hvars h)
  have ha' : ¬ (2 : Int) < (a.size : Int) := by omega
  have hb' : ¬ (2 : Int) < (b.size : Int) := by omega
  have hab : decide ((2 : Int) < (a.size : Int)) = false := decide_eq_false ha'
  have hbb : decide ((2 : Int) < (b.size : Int)) = false := decide_eq_false hb'
  clear C hvars na nb
  go_enter Tryd.func13, Tryd.ntmps13
  go_wp2_with (first
    | (go_at_call 27; refine (hcut _ (by repeat first | with_reducible exact Below.refl _ _ | with_reducible apply b_alloc | with_reducible apply b_drewN)).mono ?_; rintro e w' ⟨rfl, n, hw⟩; rw [hw])
    | (go_at_call 29; refine (htrim _).mono ?_; rintro e w' ⟨rfl, hw⟩; rw [hw])
    | (go_at_call 28; refine (hsplit _ (by repeat first | with_reducible exact Below.refl _ _ | with_reducible apply b_alloc | with_reducible apply b_drewN)).mono ?_; rintro e w' ⟨rfl, hw⟩; rw [hw])
    | (go_at_call 30; first
        | (with_reducible refine (hata _ (by repeat first | with_reducible exact Below.refl _ _ | with_reducible apply b_alloc | with_reducible apply b_drewN)).mono ?_; rintro e w' ⟨N, rfl, hbel⟩; (first | have P := Pst.more (by assumption) hbel | have P := (pst_init _ _ _ _ _ _).more hbel); have l0 := P.l0; have l1 := P.l1; have l2 := P.l2; have l3 := P.l3; have r0 := P.r0; have r1 := P.r1; have r2 := P.r2; have r3 := P.r3; have r4 := P.r4; have z0 := P.z 0; have z1 := P.z 1; have z2 := P.z 2; have z3 := P.z 3; have z4 := P.z 4)
        | (with_reducible refine (hatb _ (Pst.below (by assumption))).mono ?_; rintro e w' ⟨N, rfl, hbel⟩; (first | have P := Pst.more (by assumption) hbel | have P := (pst_init _ _ _ _ _ _).more hbel); have l0 := P.l0; have l1 := P.l1; have l2 := P.l2; have l3 := P.l3; have r0 := P.r0; have r1 := P.r1; have r2 := P.r2; have r3 := P.r3; have r4 := P.r4; have z0 := P.z 0; have z1 := P.z 1; have z2 := P.z 2; have z3 := P.z 3; have z4 := P.z 4)))
  have m2 : ∀ o, (w'.alloc o).cell? ⟨w.heap.size + 1, 2, none⟩ = some (.string c) := fun o => (P.more ((Below.refl _ _).alloc (Nat.le_refl _) o)).l2
  have m3 : ∀ o, (w'.alloc o).cell? ⟨w.heap.size + 1, 3, none⟩ = some (.string d) := fun o => (P.more ((Below.refl _ _).alloc (Nat.le_refl _) o)).l3
  go_region
  have hbW := P.b2 (.cells #[.string K, .int .i64 (av a), .int .i64 (0), .string c, .string d] 23)
  have P3 : Pst w (w'.alloc (.cells #[.string K, .int .i64 (av a), .int .i64 (0), .string c, .string d] 23)).drew a b c d := P.more ((Below.refl _ _).alloc (Nat.le_refl _) _).drew
  revert P3 hbW
  generalize (w'.alloc (.cells #[.string K, .int .i64 (av a), .int .i64 (0), .string c, .string d] 23)).drew = w3
  intro hbW P3
  have r0 := P3.r0
  have r1 := P3.r1
  have r2 := P3.r2
  have r3 := P3.r3
  have r4 := P3.r4
  have z0 := P3.z 0
  have z1 := P3.z 1
  have z2 := P3.z 2
  have z3 := P3.z 3
  have z4 := P3.z 4
  go_wp2_with fail
  (try simp only [Exit.inBlock, Exit.then])
  refine bodyPost_ret (by simp [results, Tryd.results13, go_sem, r0, r1, r2, r3, r4]; try rfl) rfl ?_
  refine ⟨rfl, ?_⟩
  repeat first | with_reducible exact hbW | (with_reducible refine b_setCell ?_ (Nat.le_refl _) _)

theorem parse_nab (C : Cts w s K T R true [a, b, c, d]) (ha : a.size ≤ 2) (hb : b.size ≤ 2) (na : Lib.atoi a.data.toList = none) (nb : Lib.atoi b.data.toList = none) :
    Calls Tryd.prog 13 #[.string s] w fun e w' => e = .returned (.tuple #[fval ⟨#[]⟩ 0 0 ⟨#[]⟩ ⟨#[]⟩, .int .i64 3]) ∧ Below w.heap.size w w' := by
  have hcut := C.cut
  have htrim := C.trim
  have hsplit := C.split
  have hvars := C.vars
  have hata : ∀ (W : World), Below w.heap.size w W → Calls Tryd.prog 30 #[.string a] W fun e w' => ∃ N : Nat, e = .returned (.tuple #[.int .i64 0, .iface 84 (.pointer (some ⟨N, 0, none⟩))]) ∧ Below W.heap.size W w' := fun W h => atoi_no na ha W (vars_below hvars h)
  have hatb : ∀ (W : World), Below w.heap.size w W → Calls Tryd.prog 30 #[.string b] W fun e w' => ∃ N : Nat, e = .returned (.tuple #[.int .i64 0, .iface 84 (.pointer (some ⟨N, 0, none⟩))]) ∧ Below W.heap.size W w' := fun W h => atoi_no nb hb W (vars_below hvars h)
  have ha' : ¬ (2 : Int) < (a.size : Int) := by omega
  have hb' : ¬ (2 : Int) < (b.size : Int) := by omega
  have hab : decide ((2 : Int) < (a.size : Int)) = false := decide_eq_false ha'
  have hbb : decide ((2 : Int) < (b.size : Int)) = false := decide_eq_false hb'
  clear C hvars na nb
  go_enter Tryd.func13, Tryd.ntmps13
  go_wp2_with (first
    | (go_at_call 27; refine (hcut _ (by repeat first | with_reducible exact Below.refl _ _ | with_reducible apply b_alloc | with_reducible apply b_drewN)).mono ?_; rintro e w' ⟨rfl, n, hw⟩; rw [hw])
    | (go_at_call 29; refine (htrim _).mono ?_; rintro e w' ⟨rfl, hw⟩; rw [hw])
    | (go_at_call 28; refine (hsplit _ (by repeat first | with_reducible exact Below.refl _ _ | with_reducible apply b_alloc | with_reducible apply b_drewN)).mono ?_; rintro e w' ⟨rfl, hw⟩; rw [hw])
    | (go_at_call 30; first
        | (with_reducible refine (hata _ (by repeat first | with_reducible exact Below.refl _ _ | with_reducible apply b_alloc | with_reducible apply b_drewN)).mono ?_; rintro e w' ⟨N, rfl, hbel⟩; (first | have P := Pst.more (by assumption) hbel | have P := (pst_init _ _ _ _ _ _).more hbel); have l0 := P.l0; have l1 := P.l1; have l2 := P.l2; have l3 := P.l3; have r0 := P.r0; have r1 := P.r1; have r2 := P.r2; have r3 := P.r3; have r4 := P.r4; have z0 := P.z 0; have z1 := P.z 1; have z2 := P.z 2; have z3 := P.z 3; have z4 := P.z 4)
        | (with_reducible refine (hatb _ (Pst.below (by assumption))).mono ?_; rintro e w' ⟨N, rfl, hbel⟩; (first | have P := Pst.more (by assumption) hbel | have P := (pst_init _ _ _ _ _ _).more hbel); have l0 := P.l0; have l1 := P.l1; have l2 := P.l2; have l3 := P.l3; have r0 := P.r0; have r1 := P.r1; have r2 := P.r2; have r3 := P.r3; have r4 := P.r4; have z0 := P.z 0; have z1 := P.z 1; have z2 := P.z 2; have z3 := P.z 3; have z4 := P.z 4)))
  have m2 : ∀ o, (w'.alloc o).cell? ⟨w.heap.size + 1, 2, none⟩ = some (.string c) := fun o => (P.more ((Below.refl _ _).alloc (Nat.le_refl _) o)).l2
  have m3 : ∀ o, (w'.alloc o).cell? ⟨w.heap.size + 1, 3, none⟩ = some (.string d) := fun o => (P.more ((Below.refl _ _).alloc (Nat.le_refl _) o)).l3
  go_region
  have hbW := P.b2 (.cells #[.string K, .int .i64 (0), .int .i64 (0), .string c, .string d] 23)
  have P3 : Pst w (w'.alloc (.cells #[.string K, .int .i64 (0), .int .i64 (0), .string c, .string d] 23)).drew a b c d := P.more ((Below.refl _ _).alloc (Nat.le_refl _) _).drew
  revert P3 hbW
  generalize (w'.alloc (.cells #[.string K, .int .i64 (0), .int .i64 (0), .string c, .string d] 23)).drew = w3
  intro hbW P3
  have r0 := P3.r0
  have r1 := P3.r1
  have r2 := P3.r2
  have r3 := P3.r3
  have r4 := P3.r4
  have z0 := P3.z 0
  have z1 := P3.z 1
  have z2 := P3.z 2
  have z3 := P3.z 3
  have z4 := P3.z 4
  go_wp2_with fail
  (try simp only [Exit.inBlock, Exit.then])
  refine bodyPost_ret (by simp [results, Tryd.results13, go_sem, r0, r1, r2, r3, r4]; try rfl) rfl ?_
  refine ⟨rfl, ?_⟩
  repeat first | with_reducible exact hbW | (with_reducible refine b_setCell ?_ (Nat.le_refl _) _)

end
end Go.V
