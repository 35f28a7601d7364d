/- block.Put, walked; the reference's Put where it does not call itself; what its append leaves. Conditions: those that each theorem names. -/
import Derived.Test.YtcdkljinnmphjaaVP
set_option maxRecDepth 100000
set_option maxHeartbeats 4000000
set_option linter.unusedSimpArgs false
set_option linter.unusedVariables false
namespace Go.V
open Go.Proofs Go.RowKit

theorem vars_try (w : World) : VarsOk Try.prog w gFree := by
  intro n v hn hv
  simp only [libVars, List.mem_cons, List.not_mem_nil, or_false] at hn
  rcases hn with rfl | rfl | rfl
  · rw [show Try.prog.globalNamed "internal/bytealg.MaxLen" = none from by kernel_rfl] at hv; cases hv
  · rw [show Try.prog.globalNamed "strconv.ErrSyntax" = none from by kernel_rfl] at hv; cases hv
  · rw [show Try.prog.globalNamed "strconv.ErrRange" = none from by kernel_rfl] at hv; cases hv

def noQ : CallF := fun _ _ => none
theorem noQ_ok : CallOk Try.prog (baseB noQ) := ⟨fun f az res back h => by unfold baseB noQ at h; cases hf : (Nat.beq f 9 || Nat.beq f 10) <;> rw [hf] at h <;> cases h⟩

def errI (o : Option PV) : Int := bif o.isSome then 0 else 2

/-- block.At, called. -/
theorem at_c {t : PV} (ht : IsBlk t) {pl : List PV} (hpl : IsPl pl) (W : World) {v vp : Value} (hv : PRep Try.prog W gFree (.st 27) t v) (hp : PRep Try.prog W gFree (.sl 3) (.sl pl) vp) :
    Calls Try.prog 8 #[v, vp] W fun e w' => ∃ va, e = .returned (.tuple #[va, .int .i64 (errI (atP pl t))]) ∧ IsV va ∧ Below W.heap.size W w' := by
  obtain ⟨K, hK⟩ := at8_ev (q := noQ) ht hpl
  have hc := (evG_sound Try.prog H0 noQ_ok K).ok 8 _ _ _ (hK K (Nat.le_refl _)) [v, vp] W gFree ⟨hv, hp, trivial⟩ (fun _ _ => rfl) (vars_try W) (fun b s p h => by cases h)
  have := hc.enter Try.func8 (by kernel_rfl) (of_decide_eq_true (by kernel_rfl))
  refine this.mono fun e w' h => ?_
  obtain ⟨v, g', rfl, hfr, hres, _, _, _⟩ := h
  obtain ⟨vs, rfl, hl, hr⟩ := hres
  match vs, hl with
  | [va, ve], _ =>
    obtain ⟨_, _, e1, h1⟩ := hr 0 _ va rfl rfl
    obtain ⟨_, _, e2, h2⟩ := hr 1 _ ve rfl rfl
    cases e1
    cases e2
    obtain ⟨n, e3, rfl⟩ := h2.int_inv
    simp only [errP, PV.int.injEq] at e3
    have hb := at_blk ht pl
    refine ⟨va, by rw [← e3.2]; rfl, ?_, ⟨hfr.os, hfr.tape, hfr.output, hfr.size, fun b hb => (hfr.free b hb rfl).2⟩⟩
    generalize (atP pl t).getD zeroB = y at hb h1
    cases hb with
    | mk op name n m nums fk fa fb fc fd kids hn hk ln lk =>
      obtain ⟨o, l, c, o', l', c', rfl, _, _⟩ := blk_open h1
      exact ⟨op, name, n, m, o, l, c, fk, fa, fb, fc, fd, o', l', c', rfl⟩

theorem below_tch {w w1 w2 : World} {b : Nat} (h : Below w.heap.size w w1) (t : Tch b w1 w2) (hb : w.heap.size ≤ b) : Below w.heap.size w w2 :=
  ⟨t.os.trans h.os, t.tape.trans h.tape, t.output.trans h.output, by rw [t.size]; exact h.size, fun k hk => (t.block k (by omega)).trans (h.block k hk)⟩

theorem Put_err (w : World) (op name : ByteArray) (n m : Int) (o : Option Addr) (l c : Nat) (fk : ByteArray) (fa fb : Int) (fc fd : ByteArray) (o' : Option Addr) (l' c' : Nat)
    (op1 name1 : ByteArray) (n1 m1 : Int) (o1 : Option Addr) (l1 c1 : Nat) (fk1 : ByteArray) (fa1 fb1 : Int) (fc1 fd1 : ByteArray) (o1' : Option Addr) (l1' c1' : Nat) (po : Option Addr) (pll pc : Nat)
    (hat : ∀ W, Below w.heap.size w W → Calls Try.prog 8 #[.agg #[.string op, .string name, .int .i64 n, .int .i64 m, .slice o l c, .string fk, .int .i64 fa, .int .i64 fb, .string fc, .string fd, .slice o' l' c'], .slice po pll pc] W fun e w' => ∃ va, e = .returned (.tuple #[va, .int .i64 2]) ∧ IsV va ∧ Below W.heap.size W w') :
    Calls Try.prog 10 #[.agg #[.string op, .string name, .int .i64 n, .int .i64 m, .slice o l c, .string fk, .int .i64 fa, .int .i64 fb, .string fc, .string fd, .slice o' l' c'], .slice po pll pc, .agg #[.string op1, .string name1, .int .i64 n1, .int .i64 m1, .slice o1 l1 c1, .string fk1, .int .i64 fa1, .int .i64 fb1, .string fc1, .string fd1, .slice o1' l1' c1']] w fun e w' => e = .returned (.tuple #[.agg #[.string ⟨#[]⟩, .string ⟨#[]⟩, .int .i64 0, .int .i64 0, .slice none 0 0, .string ⟨#[]⟩, .int .i64 0, .int .i64 0, .string ⟨#[]⟩, .string ⟨#[]⟩, .slice none 0 0], .int .i64 2]) ∧ Below w.heap.size w w' := by
  go_enter Try.func10, Try.ntmps10
  go_wp2_with (first
   | (
    go_at_call 8; refine (hat _ (by repeat first | with_reducible exact Below.refl _ _ | with_reducible apply b_alloc)).mono ?_; rintro e w1 ⟨va, rfl, ⟨op2, name2, n2, m2, o2, l2, c2, fk2, fa2, fb2, fc2, fd2, o2', l2', c2', rfl⟩, hb1⟩;
    unfold blkV at *;
    have hs1 : w.heap.size + 3 ≤ w1.heap.size := Nat.le_trans (by simp <;> omega) hb1.size;
    have hbw : Below w.heap.size w w1 := Below.trans (b := _) (by repeat first | with_reducible exact Below.refl _ _ | with_reducible apply b_alloc) (hb1.mono (by simp <;> omega));
    have rr0 : w1.cell? ⟨w.heap.size + 1 + 1, 0, none⟩ = some (.string ⟨#[]⟩) := (World.cell?_of_block (hb1.block (w.heap.size + 1 + 1) (by simp <;> omega))).trans (by go_simp);
    have rz0 : w1.frozen? ⟨w.heap.size + 1 + 1, 0, none⟩ = false := (World.frozen?_of_block (hb1.block (w.heap.size + 1 + 1) (by simp <;> omega))).trans (by go_simp);
    have rr1 : w1.cell? ⟨w.heap.size + 1 + 1, 1, none⟩ = some (.string ⟨#[]⟩) := (World.cell?_of_block (hb1.block (w.heap.size + 1 + 1) (by simp <;> omega))).trans (by go_simp);
    have rz1 : w1.frozen? ⟨w.heap.size + 1 + 1, 1, none⟩ = false := (World.frozen?_of_block (hb1.block (w.heap.size + 1 + 1) (by simp <;> omega))).trans (by go_simp);
    have rr2 : w1.cell? ⟨w.heap.size + 1 + 1, 2, none⟩ = some (.int .i64 0) := (World.cell?_of_block (hb1.block (w.heap.size + 1 + 1) (by simp <;> omega))).trans (by go_simp);
    have rz2 : w1.frozen? ⟨w.heap.size + 1 + 1, 2, none⟩ = false := (World.frozen?_of_block (hb1.block (w.heap.size + 1 + 1) (by simp <;> omega))).trans (by go_simp);
    have rr3 : w1.cell? ⟨w.heap.size + 1 + 1, 3, none⟩ = some (.int .i64 0) := (World.cell?_of_block (hb1.block (w.heap.size + 1 + 1) (by simp <;> omega))).trans (by go_simp);
    have rz3 : w1.frozen? ⟨w.heap.size + 1 + 1, 3, none⟩ = false := (World.frozen?_of_block (hb1.block (w.heap.size + 1 + 1) (by simp <;> omega))).trans (by go_simp);
    have rr4 : w1.cell? ⟨w.heap.size + 1 + 1, 4, none⟩ = some (.slice none 0 0) := (World.cell?_of_block (hb1.block (w.heap.size + 1 + 1) (by simp <;> omega))).trans (by go_simp);
    have rz4 : w1.frozen? ⟨w.heap.size + 1 + 1, 4, none⟩ = false := (World.frozen?_of_block (hb1.block (w.heap.size + 1 + 1) (by simp <;> omega))).trans (by go_simp);
    have rr5 : w1.cell? ⟨w.heap.size + 1 + 1, 5, none⟩ = some (.string ⟨#[]⟩) := (World.cell?_of_block (hb1.block (w.heap.size + 1 + 1) (by simp <;> omega))).trans (by go_simp);
    have rz5 : w1.frozen? ⟨w.heap.size + 1 + 1, 5, none⟩ = false := (World.frozen?_of_block (hb1.block (w.heap.size + 1 + 1) (by simp <;> omega))).trans (by go_simp);
    have rr6 : w1.cell? ⟨w.heap.size + 1 + 1, 6, none⟩ = some (.int .i64 0) := (World.cell?_of_block (hb1.block (w.heap.size + 1 + 1) (by simp <;> omega))).trans (by go_simp);
    have rz6 : w1.frozen? ⟨w.heap.size + 1 + 1, 6, none⟩ = false := (World.frozen?_of_block (hb1.block (w.heap.size + 1 + 1) (by simp <;> omega))).trans (by go_simp);
    have rr7 : w1.cell? ⟨w.heap.size + 1 + 1, 7, none⟩ = some (.int .i64 0) := (World.cell?_of_block (hb1.block (w.heap.size + 1 + 1) (by simp <;> omega))).trans (by go_simp);
    have rz7 : w1.frozen? ⟨w.heap.size + 1 + 1, 7, none⟩ = false := (World.frozen?_of_block (hb1.block (w.heap.size + 1 + 1) (by simp <;> omega))).trans (by go_simp);
    have rr8 : w1.cell? ⟨w.heap.size + 1 + 1, 8, none⟩ = some (.string ⟨#[]⟩) := (World.cell?_of_block (hb1.block (w.heap.size + 1 + 1) (by simp <;> omega))).trans (by go_simp);
    have rz8 : w1.frozen? ⟨w.heap.size + 1 + 1, 8, none⟩ = false := (World.frozen?_of_block (hb1.block (w.heap.size + 1 + 1) (by simp <;> omega))).trans (by go_simp);
    have rr9 : w1.cell? ⟨w.heap.size + 1 + 1, 9, none⟩ = some (.string ⟨#[]⟩) := (World.cell?_of_block (hb1.block (w.heap.size + 1 + 1) (by simp <;> omega))).trans (by go_simp);
    have rz9 : w1.frozen? ⟨w.heap.size + 1 + 1, 9, none⟩ = false := (World.frozen?_of_block (hb1.block (w.heap.size + 1 + 1) (by simp <;> omega))).trans (by go_simp);
    have rr10 : w1.cell? ⟨w.heap.size + 1 + 1, 10, none⟩ = some (.slice none 0 0) := (World.cell?_of_block (hb1.block (w.heap.size + 1 + 1) (by simp <;> omega))).trans (by go_simp);
    have rz10 : w1.frozen? ⟨w.heap.size + 1 + 1, 10, none⟩ = false := (World.frozen?_of_block (hb1.block (w.heap.size + 1 + 1) (by simp <;> omega))).trans (by go_simp);
    have ne1 : ¬ (w1.heap.size = w.heap.size + 1 + 1) := by omega;
    have ne2 : ¬ (w.heap.size + 1 + 1 = w1.heap.size) := by omega;
    have lt1 : w.heap.size + 1 + 1 < w1.heap.size := by omega;
    have lt2 : w.heap.size + 1 < w1.heap.size := by omega;
    have lt3 : w.heap.size < w1.heap.size := by omega;
    clear hb1)
   | (with_reducible show bodyPost _ _ _ _ _ _; refine bodyPost_ret (by simp [results, Try.results10, go_sem, ne1, ne2, lt1, rr0, rr1, rr2, rr3, rr4, rr5, rr6, rr7, rr8, rr9, rr10]; try rfl) rfl ?_; exact ⟨rfl, b_alloc (below_tch hbw ((((((((((((Tch.refl (w.heap.size + 1 + 1) w1).set 0 (.string ⟨#[]⟩)).set 1 (.string ⟨#[]⟩)).set 2 (.int .i64 0)).set 3 (.int .i64 0)).set 4 (.slice none 0 0)).set 5 (.string ⟨#[]⟩)).set 6 (.int .i64 0)).set 7 (.int .i64 0)).set 8 (.string ⟨#[]⟩)).set 9 (.string ⟨#[]⟩)).set 10 (.slice none 0 0)) (by omega)) _⟩))

/-- What block.put leaves. -/
def Fin10 (W6 : World) (y : PV) (S : Nat → Prop) (w0 : World) (v : Value) : Prop :=
  IsV v ∧ PRep Try.prog w0 (gS S) (.st 27) y v ∧ (∀ b, S b → W6.heap.size ≤ b ∧ b < w0.heap.size) ∧ Below W6.heap.size W6 w0

/-- The invariant of Put's region that draws. -/
def I10 (s : Nat) (mk : Value → Value → Value → Value → Value → Value → Act) (W6 : World) (t x y : PV) (v0 pl v1 : Value) (x0 x1 x2 x3 x4 x5 x6 x7 : Bool) (a : Act) (w : World) : Prop :=
  ∃ (t20 t21 t22 t23 t24 t25 : Value) (lo hi xlo xhi : Nat) (S : Nat → Prop), a = mk t20 t21 t22 t23 t24 t25 ∧ (x0 = true → t20 = v0) ∧ (x2 = true → t22 = pl) ∧ (x3 = true → t23 = v1) ∧
    (x5 = false → Below W6.heap.size W6 w ∧ (x1 = true → W6.heap.size ≤ lo ∧ hi ≤ w.heap.size ∧ OTree w lo hi t t21) ∧ (x4 = true → hi ≤ xlo ∧ W6.heap.size ≤ xlo ∧ xhi ≤ w.heap.size ∧ IsV t24 ∧ PRep Try.prog w (gR xlo xhi) (.st 27) x t24)) ∧
    (x5 = true → ∃ w0, Fin10 W6 y S w0 t25 ∧ (x6 = false → w = w0) ∧ (x6 = true → Tch (s + 1 + 1) w0 w ∧ ∀ j, j < 11 → w.cell? ⟨s + 1 + 1, j, none⟩ = t25.cells[j]?))


theorem Put_ok (w : World) (op name : ByteArray) (n m : Int) (o : Option Addr) (l c : Nat) (fk : ByteArray) (fa fb : Int) (fc fd : ByteArray) (o' : Option Addr) (l' c' : Nat)
    (op1 name1 : ByteArray) (n1 m1 : Int) (o1 : Option Addr) (l1 c1 : Nat) (fk1 : ByteArray) (fa1 fb1 : Int) (fc1 fd1 : ByteArray) (o1' : Option Addr) (l1' c1' : Nat) (po : Option Addr) (ps : List Nat) (pc : Nat)
    (hat : ∀ W, Below w.heap.size w W → Calls Try.prog 8 #[.agg #[.string op, .string name, .int .i64 n, .int .i64 m, .slice o l c, .string fk, .int .i64 fa, .int .i64 fb, .string fc, .string fd, .slice o' l' c'], .slice po ps.length pc] W fun e w' => ∃ va, e = .returned (.tuple #[va, .int .i64 0]) ∧ IsV va ∧ Below W.heap.size W w')
    {t x y : PV} (hR : PutR t ps x y) (htb : IsBlk t) (hxb : IsBlk x) (ht : PRep Try.prog w gFree (.st 27) t (.agg #[.string op, .string name, .int .i64 n, .int .i64 m, .slice o l c, .string fk, .int .i64 fa, .int .i64 fb, .string fc, .string fd, .slice o' l' c'])) (hx : PRep Try.prog w gFree (.st 27) x (.agg #[.string op1, .string name1, .int .i64 n1, .int .i64 m1, .slice o1 l1 c1, .string fk1, .int .i64 fa1, .int .i64 fb1, .string fc1, .string fd1, .slice o1' l1' c1']))
    (hpc : ps.length ≤ pc) (hpp : ps = [] ∨ ∃ pb po1, po = some ⟨pb, po1, none⟩ ∧ pb < w.heap.size ∧ ∀ (i n : Nat), ps[i]? = some n → w.cell? ⟨pb, po1 + i, none⟩ = some (.int .i64 n)) :
    Calls Try.prog 10 #[.agg #[.string op, .string name, .int .i64 n, .int .i64 m, .slice o l c, .string fk, .int .i64 fa, .int .i64 fb, .string fc, .string fd, .slice o' l' c'], .slice po ps.length pc, .agg #[.string op1, .string name1, .int .i64 n1, .int .i64 m1, .slice o1 l1 c1, .string fk1, .int .i64 fa1, .int .i64 fb1, .string fc1, .string fd1, .slice o1' l1' c1']] w fun e w' => ∃ v3 S, e = .returned (.tuple #[v3, .int .i64 0]) ∧ IsV v3 ∧ Below w.heap.size w w' ∧ PRep Try.prog w' (gS S) (.st 27) y v3 ∧ ∀ b, S b → w.heap.size ≤ b ∧ b < w'.heap.size := by
  go_enter Try.func10, Try.ntmps10
  go_wp2_with (
    go_at_call 8; refine (hat _ (by repeat first | with_reducible exact Below.refl _ _ | with_reducible apply b_alloc)).mono ?_; rintro e w1 ⟨va, rfl, ⟨op2, name2, n2, m2, o2, l2, c2, fk2, fa2, fb2, fc2, fd2, o2', l2', c2', rfl⟩, hb1⟩;
    unfold blkV at *;
    have hs1 : w.heap.size + 3 ≤ w1.heap.size := Nat.le_trans (by simp <;> omega) hb1.size;
    have hbw : Below w.heap.size w w1 := Below.trans (b := _) (by repeat first | with_reducible exact Below.refl _ _ | with_reducible apply b_alloc) (hb1.mono (by simp <;> omega));
    have rr0 : w1.cell? ⟨w.heap.size + 1 + 1, 0, none⟩ = some (.string ⟨#[]⟩) := (World.cell?_of_block (hb1.block (w.heap.size + 1 + 1) (by simp <;> omega))).trans (by go_simp);
    have rz0 : w1.frozen? ⟨w.heap.size + 1 + 1, 0, none⟩ = false := (World.frozen?_of_block (hb1.block (w.heap.size + 1 + 1) (by simp <;> omega))).trans (by go_simp);
    have ka0 : w1.cell? ⟨w.heap.size, 0, none⟩ = some (.string op) := (World.cell?_of_block (hb1.block (w.heap.size) (by simp <;> omega))).trans (by go_simp);
    have kb0 : w1.cell? ⟨w.heap.size + 1, 0, none⟩ = some (.string op1) := (World.cell?_of_block (hb1.block (w.heap.size + 1) (by simp <;> omega))).trans (by go_simp);
    have rr1 : w1.cell? ⟨w.heap.size + 1 + 1, 1, none⟩ = some (.string ⟨#[]⟩) := (World.cell?_of_block (hb1.block (w.heap.size + 1 + 1) (by simp <;> omega))).trans (by go_simp);
    have rz1 : w1.frozen? ⟨w.heap.size + 1 + 1, 1, none⟩ = false := (World.frozen?_of_block (hb1.block (w.heap.size + 1 + 1) (by simp <;> omega))).trans (by go_simp);
    have ka1 : w1.cell? ⟨w.heap.size, 1, none⟩ = some (.string name) := (World.cell?_of_block (hb1.block (w.heap.size) (by simp <;> omega))).trans (by go_simp);
    have kb1 : w1.cell? ⟨w.heap.size + 1, 1, none⟩ = some (.string name1) := (World.cell?_of_block (hb1.block (w.heap.size + 1) (by simp <;> omega))).trans (by go_simp);
    have rr2 : w1.cell? ⟨w.heap.size + 1 + 1, 2, none⟩ = some (.int .i64 0) := (World.cell?_of_block (hb1.block (w.heap.size + 1 + 1) (by simp <;> omega))).trans (by go_simp);
    have rz2 : w1.frozen? ⟨w.heap.size + 1 + 1, 2, none⟩ = false := (World.frozen?_of_block (hb1.block (w.heap.size + 1 + 1) (by simp <;> omega))).trans (by go_simp);
    have ka2 : w1.cell? ⟨w.heap.size, 2, none⟩ = some (.int .i64 n) := (World.cell?_of_block (hb1.block (w.heap.size) (by simp <;> omega))).trans (by go_simp);
    have kb2 : w1.cell? ⟨w.heap.size + 1, 2, none⟩ = some (.int .i64 n1) := (World.cell?_of_block (hb1.block (w.heap.size + 1) (by simp <;> omega))).trans (by go_simp);
    have rr3 : w1.cell? ⟨w.heap.size + 1 + 1, 3, none⟩ = some (.int .i64 0) := (World.cell?_of_block (hb1.block (w.heap.size + 1 + 1) (by simp <;> omega))).trans (by go_simp);
    have rz3 : w1.frozen? ⟨w.heap.size + 1 + 1, 3, none⟩ = false := (World.frozen?_of_block (hb1.block (w.heap.size + 1 + 1) (by simp <;> omega))).trans (by go_simp);
    have ka3 : w1.cell? ⟨w.heap.size, 3, none⟩ = some (.int .i64 m) := (World.cell?_of_block (hb1.block (w.heap.size) (by simp <;> omega))).trans (by go_simp);
    have kb3 : w1.cell? ⟨w.heap.size + 1, 3, none⟩ = some (.int .i64 m1) := (World.cell?_of_block (hb1.block (w.heap.size + 1) (by simp <;> omega))).trans (by go_simp);
    have rr4 : w1.cell? ⟨w.heap.size + 1 + 1, 4, none⟩ = some (.slice none 0 0) := (World.cell?_of_block (hb1.block (w.heap.size + 1 + 1) (by simp <;> omega))).trans (by go_simp);
    have rz4 : w1.frozen? ⟨w.heap.size + 1 + 1, 4, none⟩ = false := (World.frozen?_of_block (hb1.block (w.heap.size + 1 + 1) (by simp <;> omega))).trans (by go_simp);
    have ka4 : w1.cell? ⟨w.heap.size, 4, none⟩ = some (.slice o l c) := (World.cell?_of_block (hb1.block (w.heap.size) (by simp <;> omega))).trans (by go_simp);
    have kb4 : w1.cell? ⟨w.heap.size + 1, 4, none⟩ = some (.slice o1 l1 c1) := (World.cell?_of_block (hb1.block (w.heap.size + 1) (by simp <;> omega))).trans (by go_simp);
    have rr5 : w1.cell? ⟨w.heap.size + 1 + 1, 5, none⟩ = some (.string ⟨#[]⟩) := (World.cell?_of_block (hb1.block (w.heap.size + 1 + 1) (by simp <;> omega))).trans (by go_simp);
    have rz5 : w1.frozen? ⟨w.heap.size + 1 + 1, 5, none⟩ = false := (World.frozen?_of_block (hb1.block (w.heap.size + 1 + 1) (by simp <;> omega))).trans (by go_simp);
    have ka5 : w1.cell? ⟨w.heap.size, 5, none⟩ = some (.string fk) := (World.cell?_of_block (hb1.block (w.heap.size) (by simp <;> omega))).trans (by go_simp);
    have kb5 : w1.cell? ⟨w.heap.size + 1, 5, none⟩ = some (.string fk1) := (World.cell?_of_block (hb1.block (w.heap.size + 1) (by simp <;> omega))).trans (by go_simp);
    have rr6 : w1.cell? ⟨w.heap.size + 1 + 1, 6, none⟩ = some (.int .i64 0) := (World.cell?_of_block (hb1.block (w.heap.size + 1 + 1) (by simp <;> omega))).trans (by go_simp);
    have rz6 : w1.frozen? ⟨w.heap.size + 1 + 1, 6, none⟩ = false := (World.frozen?_of_block (hb1.block (w.heap.size + 1 + 1) (by simp <;> omega))).trans (by go_simp);
    have ka6 : w1.cell? ⟨w.heap.size, 6, none⟩ = some (.int .i64 fa) := (World.cell?_of_block (hb1.block (w.heap.size) (by simp <;> omega))).trans (by go_simp);
    have kb6 : w1.cell? ⟨w.heap.size + 1, 6, none⟩ = some (.int .i64 fa1) := (World.cell?_of_block (hb1.block (w.heap.size + 1) (by simp <;> omega))).trans (by go_simp);
    have rr7 : w1.cell? ⟨w.heap.size + 1 + 1, 7, none⟩ = some (.int .i64 0) := (World.cell?_of_block (hb1.block (w.heap.size + 1 + 1) (by simp <;> omega))).trans (by go_simp);
    have rz7 : w1.frozen? ⟨w.heap.size + 1 + 1, 7, none⟩ = false := (World.frozen?_of_block (hb1.block (w.heap.size + 1 + 1) (by simp <;> omega))).trans (by go_simp);
    have ka7 : w1.cell? ⟨w.heap.size, 7, none⟩ = some (.int .i64 fb) := (World.cell?_of_block (hb1.block (w.heap.size) (by simp <;> omega))).trans (by go_simp);
    have kb7 : w1.cell? ⟨w.heap.size + 1, 7, none⟩ = some (.int .i64 fb1) := (World.cell?_of_block (hb1.block (w.heap.size + 1) (by simp <;> omega))).trans (by go_simp);
    have rr8 : w1.cell? ⟨w.heap.size + 1 + 1, 8, none⟩ = some (.string ⟨#[]⟩) := (World.cell?_of_block (hb1.block (w.heap.size + 1 + 1) (by simp <;> omega))).trans (by go_simp);
    have rz8 : w1.frozen? ⟨w.heap.size + 1 + 1, 8, none⟩ = false := (World.frozen?_of_block (hb1.block (w.heap.size + 1 + 1) (by simp <;> omega))).trans (by go_simp);
    have ka8 : w1.cell? ⟨w.heap.size, 8, none⟩ = some (.string fc) := (World.cell?_of_block (hb1.block (w.heap.size) (by simp <;> omega))).trans (by go_simp);
    have kb8 : w1.cell? ⟨w.heap.size + 1, 8, none⟩ = some (.string fc1) := (World.cell?_of_block (hb1.block (w.heap.size + 1) (by simp <;> omega))).trans (by go_simp);
    have rr9 : w1.cell? ⟨w.heap.size + 1 + 1, 9, none⟩ = some (.string ⟨#[]⟩) := (World.cell?_of_block (hb1.block (w.heap.size + 1 + 1) (by simp <;> omega))).trans (by go_simp);
    have rz9 : w1.frozen? ⟨w.heap.size + 1 + 1, 9, none⟩ = false := (World.frozen?_of_block (hb1.block (w.heap.size + 1 + 1) (by simp <;> omega))).trans (by go_simp);
    have ka9 : w1.cell? ⟨w.heap.size, 9, none⟩ = some (.string fd) := (World.cell?_of_block (hb1.block (w.heap.size) (by simp <;> omega))).trans (by go_simp);
    have kb9 : w1.cell? ⟨w.heap.size + 1, 9, none⟩ = some (.string fd1) := (World.cell?_of_block (hb1.block (w.heap.size + 1) (by simp <;> omega))).trans (by go_simp);
    have rr10 : w1.cell? ⟨w.heap.size + 1 + 1, 10, none⟩ = some (.slice none 0 0) := (World.cell?_of_block (hb1.block (w.heap.size + 1 + 1) (by simp <;> omega))).trans (by go_simp);
    have rz10 : w1.frozen? ⟨w.heap.size + 1 + 1, 10, none⟩ = false := (World.frozen?_of_block (hb1.block (w.heap.size + 1 + 1) (by simp <;> omega))).trans (by go_simp);
    have ka10 : w1.cell? ⟨w.heap.size, 10, none⟩ = some (.slice o' l' c') := (World.cell?_of_block (hb1.block (w.heap.size) (by simp <;> omega))).trans (by go_simp);
    have kb10 : w1.cell? ⟨w.heap.size + 1, 10, none⟩ = some (.slice o1' l1' c1') := (World.cell?_of_block (hb1.block (w.heap.size + 1) (by simp <;> omega))).trans (by go_simp);
    have ne1 : ¬ (w1.heap.size = w.heap.size + 1 + 1) := by omega;
    have ne2 : ¬ (w.heap.size + 1 + 1 = w1.heap.size) := by omega;
    have lt1 : w.heap.size + 1 + 1 < w1.heap.size := by omega;
    have lt2 : w.heap.size + 1 < w1.heap.size := by omega;
    have lt3 : w.heap.size < w1.heap.size := by omega;
    clear hb1)
  obtain ⟨W5, hW5⟩ : ∃ W5, W5 = w1.alloc (.cells #[.string op2, .string name2, .int .i64 n2, .int .i64 m2, .slice o2 l2 c2, .string fk2, .int .i64 fa2, .int .i64 fb2, .string fc2, .string fd2, .slice o2' l2' c2'] 27) := ⟨_, rfl⟩
  have hb5 : Below w1.heap.size w1 W5 := by rw [hW5]; exact b_alloc (Below.refl _ _) _
  have hs5 : W5.heap.size = w1.heap.size + 1 := by rw [hW5]; simp
  have hbW : Below w.heap.size w W5 := hbw.trans (hb5.mono (by omega))
  have qr0 : W5.cell? ⟨w.heap.size + 1 + 1, 0, none⟩ = _ := (hb5.cell (show w.heap.size + 1 + 1 < w1.heap.size by omega)).trans rr0
  have qz0 : W5.frozen? ⟨w.heap.size + 1 + 1, 0, none⟩ = _ := (hb5.frozen (show w.heap.size + 1 + 1 < w1.heap.size by omega)).trans rz0
  have qa0 : W5.cell? ⟨w.heap.size, 0, none⟩ = _ := (hb5.cell (show w.heap.size < w1.heap.size by omega)).trans ka0
  have qb0 : W5.cell? ⟨w.heap.size + 1, 0, none⟩ = _ := (hb5.cell (show w.heap.size + 1 < w1.heap.size by omega)).trans kb0
  have qr1 : W5.cell? ⟨w.heap.size + 1 + 1, 1, none⟩ = _ := (hb5.cell (show w.heap.size + 1 + 1 < w1.heap.size by omega)).trans rr1
  have qz1 : W5.frozen? ⟨w.heap.size + 1 + 1, 1, none⟩ = _ := (hb5.frozen (show w.heap.size + 1 + 1 < w1.heap.size by omega)).trans rz1
  have qa1 : W5.cell? ⟨w.heap.size, 1, none⟩ = _ := (hb5.cell (show w.heap.size < w1.heap.size by omega)).trans ka1
  have qb1 : W5.cell? ⟨w.heap.size + 1, 1, none⟩ = _ := (hb5.cell (show w.heap.size + 1 < w1.heap.size by omega)).trans kb1
  have qr2 : W5.cell? ⟨w.heap.size + 1 + 1, 2, none⟩ = _ := (hb5.cell (show w.heap.size + 1 + 1 < w1.heap.size by omega)).trans rr2
  have qz2 : W5.frozen? ⟨w.heap.size + 1 + 1, 2, none⟩ = _ := (hb5.frozen (show w.heap.size + 1 + 1 < w1.heap.size by omega)).trans rz2
  have qa2 : W5.cell? ⟨w.heap.size, 2, none⟩ = _ := (hb5.cell (show w.heap.size < w1.heap.size by omega)).trans ka2
  have qb2 : W5.cell? ⟨w.heap.size + 1, 2, none⟩ = _ := (hb5.cell (show w.heap.size + 1 < w1.heap.size by omega)).trans kb2
  have qr3 : W5.cell? ⟨w.heap.size + 1 + 1, 3, none⟩ = _ := (hb5.cell (show w.heap.size + 1 + 1 < w1.heap.size by omega)).trans rr3
  have qz3 : W5.frozen? ⟨w.heap.size + 1 + 1, 3, none⟩ = _ := (hb5.frozen (show w.heap.size + 1 + 1 < w1.heap.size by omega)).trans rz3
  have qa3 : W5.cell? ⟨w.heap.size, 3, none⟩ = _ := (hb5.cell (show w.heap.size < w1.heap.size by omega)).trans ka3
  have qb3 : W5.cell? ⟨w.heap.size + 1, 3, none⟩ = _ := (hb5.cell (show w.heap.size + 1 < w1.heap.size by omega)).trans kb3
  have qr4 : W5.cell? ⟨w.heap.size + 1 + 1, 4, none⟩ = _ := (hb5.cell (show w.heap.size + 1 + 1 < w1.heap.size by omega)).trans rr4
  have qz4 : W5.frozen? ⟨w.heap.size + 1 + 1, 4, none⟩ = _ := (hb5.frozen (show w.heap.size + 1 + 1 < w1.heap.size by omega)).trans rz4
  have qa4 : W5.cell? ⟨w.heap.size, 4, none⟩ = _ := (hb5.cell (show w.heap.size < w1.heap.size by omega)).trans ka4
  have qb4 : W5.cell? ⟨w.heap.size + 1, 4, none⟩ = _ := (hb5.cell (show w.heap.size + 1 < w1.heap.size by omega)).trans kb4
  have qr5 : W5.cell? ⟨w.heap.size + 1 + 1, 5, none⟩ = _ := (hb5.cell (show w.heap.size + 1 + 1 < w1.heap.size by omega)).trans rr5
  have qz5 : W5.frozen? ⟨w.heap.size + 1 + 1, 5, none⟩ = _ := (hb5.frozen (show w.heap.size + 1 + 1 < w1.heap.size by omega)).trans rz5
  have qa5 : W5.cell? ⟨w.heap.size, 5, none⟩ = _ := (hb5.cell (show w.heap.size < w1.heap.size by omega)).trans ka5
  have qb5 : W5.cell? ⟨w.heap.size + 1, 5, none⟩ = _ := (hb5.cell (show w.heap.size + 1 < w1.heap.size by omega)).trans kb5
  have qr6 : W5.cell? ⟨w.heap.size + 1 + 1, 6, none⟩ = _ := (hb5.cell (show w.heap.size + 1 + 1 < w1.heap.size by omega)).trans rr6
  have qz6 : W5.frozen? ⟨w.heap.size + 1 + 1, 6, none⟩ = _ := (hb5.frozen (show w.heap.size + 1 + 1 < w1.heap.size by omega)).trans rz6
  have qa6 : W5.cell? ⟨w.heap.size, 6, none⟩ = _ := (hb5.cell (show w.heap.size < w1.heap.size by omega)).trans ka6
  have qb6 : W5.cell? ⟨w.heap.size + 1, 6, none⟩ = _ := (hb5.cell (show w.heap.size + 1 < w1.heap.size by omega)).trans kb6
  have qr7 : W5.cell? ⟨w.heap.size + 1 + 1, 7, none⟩ = _ := (hb5.cell (show w.heap.size + 1 + 1 < w1.heap.size by omega)).trans rr7
  have qz7 : W5.frozen? ⟨w.heap.size + 1 + 1, 7, none⟩ = _ := (hb5.frozen (show w.heap.size + 1 + 1 < w1.heap.size by omega)).trans rz7
  have qa7 : W5.cell? ⟨w.heap.size, 7, none⟩ = _ := (hb5.cell (show w.heap.size < w1.heap.size by omega)).trans ka7
  have qb7 : W5.cell? ⟨w.heap.size + 1, 7, none⟩ = _ := (hb5.cell (show w.heap.size + 1 < w1.heap.size by omega)).trans kb7
  have qr8 : W5.cell? ⟨w.heap.size + 1 + 1, 8, none⟩ = _ := (hb5.cell (show w.heap.size + 1 + 1 < w1.heap.size by omega)).trans rr8
  have qz8 : W5.frozen? ⟨w.heap.size + 1 + 1, 8, none⟩ = _ := (hb5.frozen (show w.heap.size + 1 + 1 < w1.heap.size by omega)).trans rz8
  have qa8 : W5.cell? ⟨w.heap.size, 8, none⟩ = _ := (hb5.cell (show w.heap.size < w1.heap.size by omega)).trans ka8
  have qb8 : W5.cell? ⟨w.heap.size + 1, 8, none⟩ = _ := (hb5.cell (show w.heap.size + 1 < w1.heap.size by omega)).trans kb8
  have qr9 : W5.cell? ⟨w.heap.size + 1 + 1, 9, none⟩ = _ := (hb5.cell (show w.heap.size + 1 + 1 < w1.heap.size by omega)).trans rr9
  have qz9 : W5.frozen? ⟨w.heap.size + 1 + 1, 9, none⟩ = _ := (hb5.frozen (show w.heap.size + 1 + 1 < w1.heap.size by omega)).trans rz9
  have qa9 : W5.cell? ⟨w.heap.size, 9, none⟩ = _ := (hb5.cell (show w.heap.size < w1.heap.size by omega)).trans ka9
  have qb9 : W5.cell? ⟨w.heap.size + 1, 9, none⟩ = _ := (hb5.cell (show w.heap.size + 1 < w1.heap.size by omega)).trans kb9
  have qr10 : W5.cell? ⟨w.heap.size + 1 + 1, 10, none⟩ = _ := (hb5.cell (show w.heap.size + 1 + 1 < w1.heap.size by omega)).trans rr10
  have qz10 : W5.frozen? ⟨w.heap.size + 1 + 1, 10, none⟩ = _ := (hb5.frozen (show w.heap.size + 1 + 1 < w1.heap.size by omega)).trans rz10
  have qa10 : W5.cell? ⟨w.heap.size, 10, none⟩ = _ := (hb5.cell (show w.heap.size < w1.heap.size by omega)).trans ka10
  have qb10 : W5.cell? ⟨w.heap.size + 1, 10, none⟩ = _ := (hb5.cell (show w.heap.size + 1 < w1.heap.size by omega)).trans kb10
  rw [← hW5]
  clear hW5 hat rr0 rz0 ka0 kb0 rr1 rz1 ka1 kb1 rr2 rz2 ka2 kb2 rr3 rz3 ka3 kb3 rr4 rz4 ka4 kb4 rr5 rz5 ka5 kb5 rr6 rz6 ka6 kb6 rr7 rz7 ka7 kb7 rr8 rz8 ka8 kb8 rr9 rz9 ka9 kb9 rr10 rz10 ka10 kb10
  refine region_inv (fun X a w' => I10 w.heap.size (fun t20 t21 t22 t23 t24 t25 => ⟨#[.agg #[.string op, .string name, .int .i64 n, .int .i64 m, .slice o l c, .string fk, .int .i64 fa, .int .i64 fb, .string fc, .string fd, .slice o' l' c'], .slice po ps.length pc, .agg #[.string op1, .string name1, .int .i64 n1, .int .i64 m1, .slice o1 l1 c1, .string fk1, .int .i64 fa1, .int .i64 fb1, .string fc1, .string fd1, .slice o1' l1' c1'], .pointer (some ⟨w.heap.size, 0, none⟩), undef, .pointer (some ⟨w.heap.size + 1, 0, none⟩), .pointer (some ⟨w.heap.size + 1 + 1, 0, none⟩), .int .i64 0, .pointer (some ⟨w1.heap.size, 0, none⟩), .int .i64 0, .tuple #[.agg #[.string op2, .string name2, .int .i64 n2, .int .i64 m2, .slice o2 l2 c2, .string fk2, .int .i64 fa2, .int .i64 fb2, .string fc2, .string fd2, .slice o2' l2' c2'], .int .i64 0], .agg #[.string op, .string name, .int .i64 n, .int .i64 m, .slice o l c, .string fk, .int .i64 fa, .int .i64 fb, .string fc, .string fd, .slice o' l' c'], .slice po ps.length pc, .tuple #[.agg #[.string op2, .string name2, .int .i64 n2, .int .i64 m2, .slice o2 l2 c2, .string fk2, .int .i64 fa2, .int .i64 fb2, .string fc2, .string fd2, .slice o2' l2' c2'], .int .i64 0], .agg #[.string op2, .string name2, .int .i64 n2, .int .i64 m2, .slice o2 l2 c2, .string fk2, .int .i64 fa2, .int .i64 fb2, .string fc2, .string fd2, .slice o2' l2' c2'], .int .i64 0, .int .i64 0, .bool false, undef, undef, t20, t21, t22, t23, t24, t25], []⟩) W5.drew t x y (.agg #[.string op, .string name, .int .i64 n, .int .i64 m, .slice o l c, .string fk, .int .i64 fa, .int .i64 fb, .string fc, .string fd, .slice o' l' c']) (.slice po ps.length pc) (.agg #[.string op1, .string name1, .int .i64 n1, .int .i64 m1, .slice o1 l1 c1, .string fk1, .int .i64 fa1, .int .i64 fb1, .string fc1, .string fd1, .slice o1' l1' c1']) (X 0) (X 1) (X 2) (X 3) (X 4) (X 5) (X 6) (X 7) a w') (by kernel_rfl) (by kernel_rfl) (by kernel_rfl) ?_ ?_ ?_
  · exact ⟨_, _, _, _, _, _, 0, 0, 0, 0, fun _ => False, rfl, fun h => (by cases h), fun h => (by cases h), fun h => (by cases h), fun _ => ⟨Below.refl _ _, fun h => (by cases h), fun h => (by cases h)⟩, fun h => (by cases h)⟩
  · intro i o ho
    match i, ho with
    | 0, ho =>
      obtain rfl := Option.some.inj ho
      rintro X a W K hX hpre ⟨t20, t21, t22, t23, t24, t25, lo, hi, xlo, xhi, S, rfl, i0, i2, i3, hw5, hw6⟩ hK
      have x5 : X 5 = false := by
        cases h : X 5 with
        | false => rfl
        | true =>
          have c0 : X 1 = true := hpre.2 5 _ h rfl ⟨1, .data⟩ (by simp) rfl
          have c1 : X 0 = true := hpre.2 1 _ c0 rfl ⟨0, .data⟩ (by simp) rfl
          rw [hX] at c1; cases c1
      obtain ⟨hB, _, _⟩ := hw5 x5
      have z0 : W.cell? ⟨w.heap.size, 0, none⟩ = _ := (hB.cell (show w.heap.size < W5.heap.size by omega)).trans qa0
      have z1 : W.cell? ⟨w.heap.size, 1, none⟩ = _ := (hB.cell (show w.heap.size < W5.heap.size by omega)).trans qa1
      have z2 : W.cell? ⟨w.heap.size, 2, none⟩ = _ := (hB.cell (show w.heap.size < W5.heap.size by omega)).trans qa2
      have z3 : W.cell? ⟨w.heap.size, 3, none⟩ = _ := (hB.cell (show w.heap.size < W5.heap.size by omega)).trans qa3
      have z4 : W.cell? ⟨w.heap.size, 4, none⟩ = _ := (hB.cell (show w.heap.size < W5.heap.size by omega)).trans qa4
      have z5 : W.cell? ⟨w.heap.size, 5, none⟩ = _ := (hB.cell (show w.heap.size < W5.heap.size by omega)).trans qa5
      have z6 : W.cell? ⟨w.heap.size, 6, none⟩ = _ := (hB.cell (show w.heap.size < W5.heap.size by omega)).trans qa6
      have z7 : W.cell? ⟨w.heap.size, 7, none⟩ = _ := (hB.cell (show w.heap.size < W5.heap.size by omega)).trans qa7
      have z8 : W.cell? ⟨w.heap.size, 8, none⟩ = _ := (hB.cell (show w.heap.size < W5.heap.size by omega)).trans qa8
      have z9 : W.cell? ⟨w.heap.size, 9, none⟩ = _ := (hB.cell (show w.heap.size < W5.heap.size by omega)).trans qa9
      have z10 : W.cell? ⟨w.heap.size, 10, none⟩ = _ := (hB.cell (show w.heap.size < W5.heap.size by omega)).trans qa10
      clear qr0 qz0 qa0 qb0 qr1 qz1 qa1 qb1 qr2 qz2 qa2 qb2 qr3 qz3 qa3 qb3 qr4 qz4 qa4 qb4 qr5 qz5 qa5 qb5 qr6 qz6 qa6 qb6 qr7 qz7 qa7 qb7 qr8 qz8 qa8 qb8 qr9 qz9 qa9 qb9 qr10 qz10 qa10 qb10
      go_simp
      apply hK
      simp only [Nat.reduceEqDiff, decide_false, decide_true, Bool.or_false, Bool.or_true]
      exact ⟨_, _, _, _, _, _, lo, hi, xlo, xhi, S, rfl, fun _ => rfl, i2, i3, hw5, hw6⟩
    | 1, ho =>
      obtain rfl := Option.some.inj ho
      rintro X a W K hX hpre ⟨t20, t21, t22, t23, t24, t25, lo, hi, xlo, xhi, S, rfl, i0, i2, i3, hw5, hw6⟩ hK
      have x5 : X 5 = false := by
        cases h : X 5 with
        | false => rfl
        | true =>
          have c0 : X 1 = true := hpre.2 5 _ h rfl ⟨1, .data⟩ (by simp) rfl
          rw [hX] at c0; cases c0
      have x4 : X 4 = false := by
        cases h : X 4 with
        | false => rfl
        | true =>
          have c0 : X 1 = true := hpre.2 4 _ h rfl ⟨1, .chain⟩ (by simp) rfl
          rw [hX] at c0; cases c0
      obtain ⟨hB, _, _⟩ := hw5 x5
      have d0 := i0 (hpre.1 ⟨0, .data⟩ (by simp) rfl)
      subst d0
      have hBs : W5.heap.size ≤ W.heap.size := hB.size
      have hcall := clone_c htb W gFree _ (ht.ext (w' := W) (Nat.le_trans hbW.size hBs) fun b hb _ => ⟨rfl, (hB.block b (show b < W5.heap.size by have := hbW.size; omega)).trans (hbW.block b hb)⟩)
      clear qr0 qz0 qa0 qb0 qr1 qz1 qa1 qb1 qr2 qz2 qa2 qb2 qr3 qz3 qa3 qb3 qr4 qz4 qa4 qb4 qr5 qz5 qa5 qb5 qr6 qz6 qa6 qb6 qr7 qz7 qa7 qb7 qr8 qz8 qa8 qb8 qr9 qz9 qa9 qb9 qr10 qz10 qa10 qb10
      go_simp
      go_wp2_with (go_at_call 29; refine hcall.mono ?_; rintro e w' ⟨v3, rfl, hb3, ht3⟩)
      simp only [Nat.reduceEqDiff, decide_false, decide_true, Bool.or_false, Bool.or_true]
      exact ⟨_, _, _, _, _, _, W.heap.size, w'.heap.size, xlo, xhi, S, rfl, fun _ => rfl, i2, i3, fun _ => ⟨hB.trans (hb3.mono hBs), fun _ => ⟨hBs, Nat.le_refl _, ht3⟩, fun h => (by rw [x4] at h; cases h)⟩, fun h => (by rw [x5] at h; cases h)⟩
    | 2, ho =>
      obtain rfl := Option.some.inj ho
      rintro X a W K hX hpre ⟨t20, t21, t22, t23, t24, t25, lo, hi, xlo, xhi, S, rfl, i0, i2, i3, hw5, hw6⟩ hK
      clear qr0 qz0 qa0 qb0 qr1 qz1 qa1 qb1 qr2 qz2 qa2 qb2 qr3 qz3 qa3 qb3 qr4 qz4 qa4 qb4 qr5 qz5 qa5 qb5 qr6 qz6 qa6 qb6 qr7 qz7 qa7 qb7 qr8 qz8 qa8 qb8 qr9 qz9 qa9 qb9 qr10 qz10 qa10 qb10
      go_simp
      apply hK
      simp only [Nat.reduceEqDiff, decide_false, decide_true, Bool.or_false, Bool.or_true]
      exact ⟨_, _, _, _, _, _, lo, hi, xlo, xhi, S, rfl, i0, fun _ => rfl, i3, hw5, hw6⟩
    | 3, ho =>
      obtain rfl := Option.some.inj ho
      rintro X a W K hX hpre ⟨t20, t21, t22, t23, t24, t25, lo, hi, xlo, xhi, S, rfl, i0, i2, i3, hw5, hw6⟩ hK
      have x5 : X 5 = false := by
        cases h : X 5 with
        | false => rfl
        | true =>
          have c0 : X 4 = true := hpre.2 5 _ h rfl ⟨4, .data⟩ (by simp) rfl
          have c1 : X 3 = true := hpre.2 4 _ c0 rfl ⟨3, .data⟩ (by simp) rfl
          rw [hX] at c1; cases c1
      obtain ⟨hB, _, _⟩ := hw5 x5
      have z0 : W.cell? ⟨w.heap.size + 1, 0, none⟩ = _ := (hB.cell (show w.heap.size + 1 < W5.heap.size by omega)).trans qb0
      have z1 : W.cell? ⟨w.heap.size + 1, 1, none⟩ = _ := (hB.cell (show w.heap.size + 1 < W5.heap.size by omega)).trans qb1
      have z2 : W.cell? ⟨w.heap.size + 1, 2, none⟩ = _ := (hB.cell (show w.heap.size + 1 < W5.heap.size by omega)).trans qb2
      have z3 : W.cell? ⟨w.heap.size + 1, 3, none⟩ = _ := (hB.cell (show w.heap.size + 1 < W5.heap.size by omega)).trans qb3
      have z4 : W.cell? ⟨w.heap.size + 1, 4, none⟩ = _ := (hB.cell (show w.heap.size + 1 < W5.heap.size by omega)).trans qb4
      have z5 : W.cell? ⟨w.heap.size + 1, 5, none⟩ = _ := (hB.cell (show w.heap.size + 1 < W5.heap.size by omega)).trans qb5
      have z6 : W.cell? ⟨w.heap.size + 1, 6, none⟩ = _ := (hB.cell (show w.heap.size + 1 < W5.heap.size by omega)).trans qb6
      have z7 : W.cell? ⟨w.heap.size + 1, 7, none⟩ = _ := (hB.cell (show w.heap.size + 1 < W5.heap.size by omega)).trans qb7
      have z8 : W.cell? ⟨w.heap.size + 1, 8, none⟩ = _ := (hB.cell (show w.heap.size + 1 < W5.heap.size by omega)).trans qb8
      have z9 : W.cell? ⟨w.heap.size + 1, 9, none⟩ = _ := (hB.cell (show w.heap.size + 1 < W5.heap.size by omega)).trans qb9
      have z10 : W.cell? ⟨w.heap.size + 1, 10, none⟩ = _ := (hB.cell (show w.heap.size + 1 < W5.heap.size by omega)).trans qb10
      clear qr0 qz0 qa0 qb0 qr1 qz1 qa1 qb1 qr2 qz2 qa2 qb2 qr3 qz3 qa3 qb3 qr4 qz4 qa4 qb4 qr5 qz5 qa5 qb5 qr6 qz6 qa6 qb6 qr7 qz7 qa7 qb7 qr8 qz8 qa8 qb8 qr9 qz9 qa9 qb9 qr10 qz10 qa10 qb10
      go_simp
      apply hK
      simp only [Nat.reduceEqDiff, decide_false, decide_true, Bool.or_false, Bool.or_true]
      exact ⟨_, _, _, _, _, _, lo, hi, xlo, xhi, S, rfl, i0, i2, fun _ => rfl, hw5, hw6⟩
    | 4, ho =>
      obtain rfl := Option.some.inj ho
      rintro X a W K hX hpre ⟨t20, t21, t22, t23, t24, t25, lo, hi, xlo, xhi, S, rfl, i0, i2, i3, hw5, hw6⟩ hK
      have x5 : X 5 = false := by
        cases h : X 5 with
        | false => rfl
        | true =>
          have c0 : X 4 = true := hpre.2 5 _ h rfl ⟨4, .data⟩ (by simp) rfl
          rw [hX] at c0; cases c0
      have d1 : X 1 = true := hpre.1 ⟨1, .chain⟩ (by simp) rfl
      obtain ⟨hB, hB1, _⟩ := hw5 x5
      obtain ⟨b1, b2, b3⟩ := hB1 d1
      have d3 := i3 (hpre.1 ⟨3, .data⟩ (by simp) rfl)
      subst d3
      have hBs : W5.heap.size ≤ W.heap.size := hB.size
      have hcall := clone_c hxb W gFree _ (hx.ext (w' := W) (Nat.le_trans hbW.size hBs) fun b hb _ => ⟨rfl, (hB.block b (show b < W5.heap.size by have := hbW.size; omega)).trans (hbW.block b hb)⟩)
      clear qr0 qz0 qa0 qb0 qr1 qz1 qa1 qb1 qr2 qz2 qa2 qb2 qr3 qz3 qa3 qb3 qr4 qz4 qa4 qb4 qr5 qz5 qa5 qb5 qr6 qz6 qa6 qb6 qr7 qz7 qa7 qb7 qr8 qz8 qa8 qb8 qr9 qz9 qa9 qb9 qr10 qz10 qa10 qb10
      go_simp
      go_wp2_with (go_at_call 29; refine hcall.mono ?_; rintro e w' ⟨v3, rfl, hb3, ht3⟩)
      simp only [Nat.reduceEqDiff, decide_false, decide_true, Bool.or_false, Bool.or_true]
      exact ⟨_, _, _, _, _, _, lo, hi, W.heap.size, w'.heap.size, S, rfl, i0, i2, fun _ => rfl, fun _ => ⟨hB.trans (hb3.mono hBs), fun _ => ⟨b1, Nat.le_trans b2 hb3.size, b3.ext hb3.size fun b _ hb => hb3.block b (by omega)⟩, fun _ => ⟨b2, hBs, Nat.le_refl _, ht3.isV, ht3.prep fun b h1 h2 _ => gR_free.2 ⟨h1, h2⟩⟩⟩, fun h => (by rw [x5] at h; cases h)⟩
    | 5, ho =>
      obtain rfl := Option.some.inj ho
      rintro X a W K hX hpre ⟨t20, t21, t22, t23, t24, t25, lo, hi, xlo, xhi, S, rfl, i0, i2, i3, hw5, hw6⟩ hK
      have x6 : X 6 = false := by
        cases h : X 6 with
        | false => rfl
        | true =>
          have c0 : X 5 = true := hpre.2 6 _ h rfl ⟨5, .data⟩ (by simp) rfl
          rw [hX] at c0; cases c0
      have d1 : X 1 = true := hpre.1 ⟨1, .data⟩ (by simp) rfl
      have d4 : X 4 = true := hpre.1 ⟨4, .data⟩ (by simp) rfl
      have d2 := i2 (hpre.1 ⟨2, .data⟩ (by simp) rfl)
      subst d2
      obtain ⟨hB, hB1, hB4⟩ := hw5 hX
      obtain ⟨b1, b2, b3⟩ := hB1 d1
      obtain ⟨b4, b5, b6, b7, b8⟩ := hB4 d4
      have b1' : W5.heap.size ≤ lo := b1
      have b5' : W5.heap.size ≤ xlo := b5
      have hBs : W5.heap.size ≤ W.heap.size := hB.size
      have hws : w.heap.size ≤ W5.heap.size := hbW.size
      have hcall := put_c hR W lo hi _ b3 b2 xlo xhi _ b8 b7 b6 (.inr b4) po pc ⟨hpc, hpp.imp_right fun ⟨pb, po1, e1, e2, e3⟩ => ⟨pb, po1, e1, by omega, by omega, fun i n hi => by rw [hB.cell (show pb < W5.heap.size by omega)]; exact (hbW.cell e2).trans (e3 i n hi)⟩⟩
      clear qr0 qz0 qa0 qb0 qr1 qz1 qa1 qb1 qr2 qz2 qa2 qb2 qr3 qz3 qa3 qb3 qr4 qz4 qa4 qb4 qr5 qz5 qa5 qb5 qr6 qz6 qa6 qb6 qr7 qz7 qa7 qb7 qr8 qz8 qa8 qb8 qr9 qz9 qa9 qb9 qr10 qz10 qa10 qb10
      go_simp
      go_wp2_with (go_at_call 30; refine hcall.mono ?_; rintro e w' ⟨v3, S3, rfl, hv3, hw3, hr3, hS3⟩)
      simp only [Nat.reduceEqDiff, decide_false, decide_true, Bool.or_false, Bool.or_true]
      exact ⟨_, _, _, _, _, _, lo, hi, xlo, xhi, S3, rfl, i0, fun _ => rfl, i3, fun h => (by cases h), fun _ => ⟨w', ⟨hv3, hr3, fun b hb => ⟨by have := (hS3 b hb).2; show W5.heap.size ≤ b; omega, (hS3 b hb).1⟩, ⟨hw3.os.trans hB.os, hw3.tape.trans hB.tape, hw3.output.trans hB.output, Nat.le_trans hB.size hw3.size, fun b hb => (hw3.keep b (Nat.lt_of_lt_of_le hb hB.size) (fun h => by have hb' : b < W5.heap.size := hb; omega)).trans (hB.block b hb)⟩⟩, fun _ => rfl, fun h => (by rw [x6] at h; cases h)⟩⟩
    | 6, ho =>
      obtain rfl := Option.some.inj ho
      rintro X a W K hX hpre ⟨t20, t21, t22, t23, t24, t25, lo, hi, xlo, xhi, S, rfl, i0, i2, i3, hw5, hw6⟩ hK
      have d5 : X 5 = true := hpre.1 ⟨5, .data⟩ (by simp) rfl
      obtain ⟨w0, ⟨hv, hr, hS, hB⟩, e1, _⟩ := hw6 d5
      have hW := e1 hX
      subst hW
      have hv' := hv
      obtain ⟨op3, name3, n3, m3, o3, l3, c3, fk3, fa3, fb3, fc3, fd3, o3', l3', c3', rfl⟩ := hv
      unfold blkV at *
      have y0 : W.cell? ⟨w.heap.size + 1 + 1, 0, none⟩ = _ := (hB.cell (show w.heap.size + 1 + 1 < W5.heap.size by omega)).trans qr0
      have z0 : W.frozen? ⟨w.heap.size + 1 + 1, 0, none⟩ = _ := (hB.frozen (show w.heap.size + 1 + 1 < W5.heap.size by omega)).trans qz0
      have y1 : W.cell? ⟨w.heap.size + 1 + 1, 1, none⟩ = _ := (hB.cell (show w.heap.size + 1 + 1 < W5.heap.size by omega)).trans qr1
      have z1 : W.frozen? ⟨w.heap.size + 1 + 1, 1, none⟩ = _ := (hB.frozen (show w.heap.size + 1 + 1 < W5.heap.size by omega)).trans qz1
      have y2 : W.cell? ⟨w.heap.size + 1 + 1, 2, none⟩ = _ := (hB.cell (show w.heap.size + 1 + 1 < W5.heap.size by omega)).trans qr2
      have z2 : W.frozen? ⟨w.heap.size + 1 + 1, 2, none⟩ = _ := (hB.frozen (show w.heap.size + 1 + 1 < W5.heap.size by omega)).trans qz2
      have y3 : W.cell? ⟨w.heap.size + 1 + 1, 3, none⟩ = _ := (hB.cell (show w.heap.size + 1 + 1 < W5.heap.size by omega)).trans qr3
      have z3 : W.frozen? ⟨w.heap.size + 1 + 1, 3, none⟩ = _ := (hB.frozen (show w.heap.size + 1 + 1 < W5.heap.size by omega)).trans qz3
      have y4 : W.cell? ⟨w.heap.size + 1 + 1, 4, none⟩ = _ := (hB.cell (show w.heap.size + 1 + 1 < W5.heap.size by omega)).trans qr4
      have z4 : W.frozen? ⟨w.heap.size + 1 + 1, 4, none⟩ = _ := (hB.frozen (show w.heap.size + 1 + 1 < W5.heap.size by omega)).trans qz4
      have y5 : W.cell? ⟨w.heap.size + 1 + 1, 5, none⟩ = _ := (hB.cell (show w.heap.size + 1 + 1 < W5.heap.size by omega)).trans qr5
      have z5 : W.frozen? ⟨w.heap.size + 1 + 1, 5, none⟩ = _ := (hB.frozen (show w.heap.size + 1 + 1 < W5.heap.size by omega)).trans qz5
      have y6 : W.cell? ⟨w.heap.size + 1 + 1, 6, none⟩ = _ := (hB.cell (show w.heap.size + 1 + 1 < W5.heap.size by omega)).trans qr6
      have z6 : W.frozen? ⟨w.heap.size + 1 + 1, 6, none⟩ = _ := (hB.frozen (show w.heap.size + 1 + 1 < W5.heap.size by omega)).trans qz6
      have y7 : W.cell? ⟨w.heap.size + 1 + 1, 7, none⟩ = _ := (hB.cell (show w.heap.size + 1 + 1 < W5.heap.size by omega)).trans qr7
      have z7 : W.frozen? ⟨w.heap.size + 1 + 1, 7, none⟩ = _ := (hB.frozen (show w.heap.size + 1 + 1 < W5.heap.size by omega)).trans qz7
      have y8 : W.cell? ⟨w.heap.size + 1 + 1, 8, none⟩ = _ := (hB.cell (show w.heap.size + 1 + 1 < W5.heap.size by omega)).trans qr8
      have z8 : W.frozen? ⟨w.heap.size + 1 + 1, 8, none⟩ = _ := (hB.frozen (show w.heap.size + 1 + 1 < W5.heap.size by omega)).trans qz8
      have y9 : W.cell? ⟨w.heap.size + 1 + 1, 9, none⟩ = _ := (hB.cell (show w.heap.size + 1 + 1 < W5.heap.size by omega)).trans qr9
      have z9 : W.frozen? ⟨w.heap.size + 1 + 1, 9, none⟩ = _ := (hB.frozen (show w.heap.size + 1 + 1 < W5.heap.size by omega)).trans qz9
      have y10 : W.cell? ⟨w.heap.size + 1 + 1, 10, none⟩ = _ := (hB.cell (show w.heap.size + 1 + 1 < W5.heap.size by omega)).trans qr10
      have z10 : W.frozen? ⟨w.heap.size + 1 + 1, 10, none⟩ = _ := (hB.frozen (show w.heap.size + 1 + 1 < W5.heap.size by omega)).trans qz10
      clear qr0 qz0 qa0 qb0 qr1 qz1 qa1 qb1 qr2 qz2 qa2 qb2 qr3 qz3 qa3 qb3 qr4 qz4 qa4 qb4 qr5 qz5 qa5 qb5 qr6 qz6 qa6 qb6 qr7 qz7 qa7 qb7 qr8 qz8 qa8 qb8 qr9 qz9 qa9 qb9 qr10 qz10 qa10 qb10
      go_simp
      apply hK
      simp only [Nat.reduceEqDiff, decide_false, decide_true, Bool.or_false, Bool.or_true]
      refine ⟨_, _, _, _, _, _, lo, hi, xlo, xhi, S, rfl, i0, i2, i3, fun h => (by rw [d5] at h; cases h), fun _ => ⟨W, ⟨hv', hr, hS, hB⟩, fun h => (by cases h), fun _ => ⟨(((((((((((Tch.refl (w.heap.size + 1 + 1) W).set 0 (.string op3)).set 1 (.string name3)).set 2 (.int .i64 n3)).set 3 (.int .i64 m3)).set 4 (.slice o3 l3 c3)).set 5 (.string fk3)).set 6 (.int .i64 fa3)).set 7 (.int .i64 fb3)).set 8 (.string fc3)).set 9 (.string fd3)).set 10 (.slice o3' l3' c3'), fun j hj => ?_⟩⟩⟩
      match j, hj with
      | 0, _ => go_simp; try rfl
      | 1, _ => go_simp; try rfl
      | 2, _ => go_simp; try rfl
      | 3, _ => go_simp; try rfl
      | 4, _ => go_simp; try rfl
      | 5, _ => go_simp; try rfl
      | 6, _ => go_simp; try rfl
      | 7, _ => go_simp; try rfl
      | 8, _ => go_simp; try rfl
      | 9, _ => go_simp; try rfl
      | 10, _ => go_simp; try rfl
    | 7, ho =>
      obtain rfl := Option.some.inj ho
      rintro X a W K hX hpre ⟨t20, t21, t22, t23, t24, t25, lo, hi, xlo, xhi, S, rfl, i0, i2, i3, hw5, hw6⟩ hK
      clear qr0 qz0 qa0 qb0 qr1 qz1 qa1 qb1 qr2 qz2 qa2 qb2 qr3 qz3 qa3 qb3 qr4 qz4 qa4 qb4 qr5 qz5 qa5 qb5 qr6 qz6 qa6 qb6 qr7 qz7 qa7 qb7 qr8 qz8 qa8 qb8 qr9 qz9 qa9 qb9 qr10 qz10 qa10 qb10
      go_simp
      apply hK
      simp only [Nat.reduceEqDiff, decide_false, decide_true, Bool.or_false, Bool.or_true]
      exact ⟨_, _, _, _, _, _, lo, hi, xlo, xhi, S, rfl, i0, i2, i3, hw5, hw6⟩
    | i + 8, ho => simp at ho
  · intro X a V hX
    rintro ⟨t20, t21, t22, t23, t24, t25, lo, hi, xlo, xhi, S, rfl, i0, i2, i3, hw5, hw6⟩
    have hall : ∀ k, k < 8 → X k = true := hX
    obtain ⟨w0, ⟨hv, hr, hS, hB⟩, _, e2⟩ := hw6 (hall 5 (by decide))
    obtain ⟨htc, hcc⟩ := e2 (hall 6 (by decide))
    have hv' := hv
    obtain ⟨op3, name3, n3, m3, o3, l3, c3, fk3, fa3, fb3, fc3, fd3, o3', l3', c3', rfl⟩ := hv
    have hpost : IsV (blkV op3 name3 n3 m3 (.slice o3 l3 c3) fk3 fa3 fb3 fc3 fd3 (.slice o3' l3' c3')) ∧ Below w.heap.size w V ∧ PRep Try.prog V (gS S) (.st 27) y (blkV op3 name3 n3 m3 (.slice o3 l3 c3) fk3 fa3 fb3 fc3 fd3 (.slice o3' l3' c3')) ∧ ∀ b, S b → w.heap.size ≤ b ∧ b < V.heap.size := by
      have h1 : w.heap.size ≤ W5.heap.size := hbW.size
      have h2 : W5.heap.size ≤ w0.heap.size := hB.size
      refine ⟨hv', below_tch (hbW.trans (Below.mono (B := W5.heap.size) ⟨hB.os, hB.tape, hB.output, hB.size, hB.block⟩ h1)) htc (by omega), hr.ext (Nat.le_of_eq htc.size.symm) fun b _ hbt => ⟨hbt, htc.block b ?_⟩, fun b hb => ?_⟩
      · have h3 : W5.heap.size ≤ b := (hS b (gS_free.1 hbt)).1
        omega
      · have h3 : W5.heap.size ≤ b := (hS b hb).1
        exact ⟨by omega, by rw [htc.size]; exact (hS b hb).2⟩
    unfold blkV at *
    have nc0 : V.cell? ⟨w.heap.size + 1 + 1, 0, none⟩ = some (.string op3) := hcc 0 (by decide)
    have nc1 : V.cell? ⟨w.heap.size + 1 + 1, 1, none⟩ = some (.string name3) := hcc 1 (by decide)
    have nc2 : V.cell? ⟨w.heap.size + 1 + 1, 2, none⟩ = some (.int .i64 n3) := hcc 2 (by decide)
    have nc3 : V.cell? ⟨w.heap.size + 1 + 1, 3, none⟩ = some (.int .i64 m3) := hcc 3 (by decide)
    have nc4 : V.cell? ⟨w.heap.size + 1 + 1, 4, none⟩ = some (.slice o3 l3 c3) := hcc 4 (by decide)
    have nc5 : V.cell? ⟨w.heap.size + 1 + 1, 5, none⟩ = some (.string fk3) := hcc 5 (by decide)
    have nc6 : V.cell? ⟨w.heap.size + 1 + 1, 6, none⟩ = some (.int .i64 fa3) := hcc 6 (by decide)
    have nc7 : V.cell? ⟨w.heap.size + 1 + 1, 7, none⟩ = some (.int .i64 fb3) := hcc 7 (by decide)
    have nc8 : V.cell? ⟨w.heap.size + 1 + 1, 8, none⟩ = some (.string fc3) := hcc 8 (by decide)
    have nc9 : V.cell? ⟨w.heap.size + 1 + 1, 9, none⟩ = some (.string fd3) := hcc 9 (by decide)
    have nc10 : V.cell? ⟨w.heap.size + 1 + 1, 10, none⟩ = some (.slice o3' l3' c3') := hcc 10 (by decide)
    clear i0 i2 i3 hw5 hw6 hall hX hr hS hB htc hcc e2 qr0 qz0 qa0 qb0 qr1 qz1 qa1 qb1 qr2 qz2 qa2 qb2 qr3 qz3 qa3 qb3 qr4 qz4 qa4 qb4 qr5 qz5 qa5 qb5 qr6 qz6 qa6 qb6 qr7 qz7 qa7 qb7 qr8 qz8 qa8 qb8 qr9 qz9 qa9 qb9 qr10 qz10 qa10 qb10
    go_wp2_with (with_reducible show bodyPost _ _ _ _ _ _; refine bodyPost_ret (by simp [results, Try.results10, go_sem, nc0, nc1, nc2, nc3, nc4, nc5, nc6, nc7, nc8, nc9, nc10]; try rfl) rfl ?_; exact ⟨_, S, rfl, hpost⟩)
end Go.V

set_option maxRecDepth 100000
set_option maxHeartbeats 4000000
set_option linter.unusedSimpArgs false
set_option linter.unusedVariables false
namespace Go.V
open Go.Proofs Go.RowKit

theorem ref_nil (w : World) (op name : ByteArray) (n m : Int) (o : Option Addr) (l c : Nat) (fk : ByteArray) (fa fb : Int) (fc fd : ByteArray) (o' : Option Addr) (l' c' : Nat)
    (op1 name1 : ByteArray) (n1 m1 : Int) (o1 : Option Addr) (l1 c1 : Nat) (fk1 : ByteArray) (fa1 fb1 : Int) (fc1 fd1 : ByteArray) (o1' : Option Addr) (l1' c1' : Nat) (po : Option Addr) (pc : Nat) :
    Calls Try.prog 9 #[.agg #[.string op, .string name, .int .i64 n, .int .i64 m, .slice o l c, .string fk, .int .i64 fa, .int .i64 fb, .string fc, .string fd, .slice o' l' c'], .slice po 0 pc, .agg #[.string op1, .string name1, .int .i64 n1, .int .i64 m1, .slice o1 l1 c1, .string fk1, .int .i64 fa1, .int .i64 fb1, .string fc1, .string fd1, .slice o1' l1' c1']] w fun e w' => e = .returned (.tuple #[.agg #[.string op1, .string name1, .int .i64 n1, .int .i64 m1, .slice o1 l1 c1, .string fk1, .int .i64 fa1, .int .i64 fb1, .string fc1, .string fd1, .slice o1' l1' c1'], .int .i64 0]) ∧ Below w.heap.size w w' := by
  go_enter Try.func9, Try.ntmps9
  go_wp2_with (with_reducible show bodyPost _ _ _ _ _ _; refine bodyPost_ret (by simp [results, Try.results9, go_sem]; try rfl) rfl ?_; exact ⟨rfl, (by repeat first | with_reducible exact Below.refl _ _ | with_reducible apply b_alloc | (with_reducible refine b_setCell ?_ (by simp; omega) _))⟩)

theorem ref_bad (w : World) (op name : ByteArray) (n m : Int) (o : Option Addr) (l c : Nat) (fk : ByteArray) (fa fb : Int) (fc fd : ByteArray) (o' : Option Addr) (l' c' : Nat)
    (op1 name1 : ByteArray) (n1 m1 : Int) (o1 : Option Addr) (l1 c1 : Nat) (fk1 : ByteArray) (fa1 fb1 : Int) (fc1 fd1 : ByteArray) (o1' : Option Addr) (l1' c1' : Nat) (pb po pl pc : Nat) (k : Int) (hp : w.cell? ⟨pb, po, none⟩ = some (.int .i64 k)) (hk : ¬ (0 ≤ k ∧ k < l')) :
    Calls Try.prog 9 #[.agg #[.string op, .string name, .int .i64 n, .int .i64 m, .slice o l c, .string fk, .int .i64 fa, .int .i64 fb, .string fc, .string fd, .slice o' l' c'], .slice (some ⟨pb, po, none⟩) (pl + 1) pc, .agg #[.string op1, .string name1, .int .i64 n1, .int .i64 m1, .slice o1 l1 c1, .string fk1, .int .i64 fa1, .int .i64 fb1, .string fc1, .string fd1, .slice o1' l1' c1']] w fun e w' => e = .returned (.tuple #[.agg #[.string ⟨#[]⟩, .string ⟨#[]⟩, .int .i64 0, .int .i64 0, .slice none 0 0, .string ⟨#[]⟩, .int .i64 0, .int .i64 0, .string ⟨#[]⟩, .string ⟨#[]⟩, .slice none 0 0], .int .i64 2]) ∧ Below w.heap.size w w' := by
  have hlp : pb < w.heap.size := World.block_lt_of_cell? _ _ hp
  have hlp1 : pb < w.heap.size + 1 := by omega
  have hlp2 : pb < w.heap.size + 1 + 1 := by omega
  have hpl : ¬ ((pl : Int) + 1 = 0) := by omega
  by_cases h0 : k < 0
  · go_enter Try.func9, Try.ntmps9
    go_wp2_with (with_reducible show bodyPost _ _ _ _ _ _; refine bodyPost_ret (by simp [results, Try.results9, go_sem]; try rfl) rfl ?_; exact ⟨rfl, (by repeat first | with_reducible exact Below.refl _ _ | with_reducible apply b_alloc | (with_reducible refine b_setCell ?_ (by simp; omega) _))⟩)
  · have h1 : (l' : Int) ≤ k := by omega
    go_enter Try.func9, Try.ntmps9
    go_wp2_with (with_reducible show bodyPost _ _ _ _ _ _; refine bodyPost_ret (by simp [results, Try.results9, go_sem]; try rfl) rfl ?_; exact ⟨rfl, (by repeat first | with_reducible exact Below.refl _ _ | with_reducible apply b_alloc | (with_reducible refine b_setCell ?_ (by simp; omega) _))⟩)

theorem st11 (w : World) (b o : Nat) (u0 u1 u2 u3 u4 u5 u6 u7 u8 u9 u10 : Value) (h : ∀ j, j < 11 → ∃ u, w.cell? ⟨b, o + j, none⟩ = some u) :
    ∃ w', w' = (((((((((((w.setCell ⟨b, o, none⟩ u0).setCell ⟨b, o + 1, none⟩ u1).setCell ⟨b, o + 2, none⟩ u2).setCell ⟨b, o + 3, none⟩ u3).setCell ⟨b, o + 4, none⟩ u4).setCell ⟨b, o + 5, none⟩ u5).setCell ⟨b, o + 6, none⟩ u6).setCell ⟨b, o + 7, none⟩ u7).setCell ⟨b, o + 8, none⟩ u8).setCell ⟨b, o + 9, none⟩ u9).setCell ⟨b, o + 10, none⟩ u10) ∧
      Tch b w w' ∧ (∀ j, j < 11 → w'.cell? ⟨b, o + j, none⟩ = (Value.agg #[u0, u1, u2, u3, u4, u5, u6, u7, u8, u9, u10]).cells[j]?) ∧ (∀ q, (q < o ∨ o + 11 ≤ q) → w'.cell? ⟨b, q, none⟩ = w.cell? ⟨b, q, none⟩) := by
  refine ⟨_, rfl, (((((((((((Tch.refl b w).set (o) u0).set (o + 1) u1).set (o + 2) u2).set (o + 3) u3).set (o + 4) u4).set (o + 5) u5).set (o + 6) u6).set (o + 7) u7).set (o + 8) u8).set (o + 9) u9).set (o + 10) u10, fun j hj => ?_, fun q hq => ?_⟩
  · obtain ⟨w0, h0⟩ := h 0 (by decide)
    obtain ⟨w1, h1⟩ := h 1 (by decide)
    obtain ⟨w2, h2⟩ := h 2 (by decide)
    obtain ⟨w3, h3⟩ := h 3 (by decide)
    obtain ⟨w4, h4⟩ := h 4 (by decide)
    obtain ⟨w5, h5⟩ := h 5 (by decide)
    obtain ⟨w6, h6⟩ := h 6 (by decide)
    obtain ⟨w7, h7⟩ := h 7 (by decide)
    obtain ⟨w8, h8⟩ := h 8 (by decide)
    obtain ⟨w9, h9⟩ := h 9 (by decide)
    obtain ⟨w10, h10⟩ := h 10 (by decide)
    rw [Nat.add_zero] at h0
    clear h
    match j, hj with
    | 0, _ => go_simp; try rfl
    | 1, _ => go_simp; try rfl
    | 2, _ => go_simp; try rfl
    | 3, _ => go_simp; try rfl
    | 4, _ => go_simp; try rfl
    | 5, _ => go_simp; try rfl
    | 6, _ => go_simp; try rfl
    | 7, _ => go_simp; try rfl
    | 8, _ => go_simp; try rfl
    | 9, _ => go_simp; try rfl
    | 10, _ => go_simp; try rfl
  · have m0 : ¬ (o = q) := by omega
    have l0 : ¬ (q = o) := by omega
    have m1 : ¬ (o + 1 = q) := by omega
    have l1 : ¬ (q = o + 1) := by omega
    have m2 : ¬ (o + 2 = q) := by omega
    have l2 : ¬ (q = o + 2) := by omega
    have m3 : ¬ (o + 3 = q) := by omega
    have l3 : ¬ (q = o + 3) := by omega
    have m4 : ¬ (o + 4 = q) := by omega
    have l4 : ¬ (q = o + 4) := by omega
    have m5 : ¬ (o + 5 = q) := by omega
    have l5 : ¬ (q = o + 5) := by omega
    have m6 : ¬ (o + 6 = q) := by omega
    have l6 : ¬ (q = o + 6) := by omega
    have m7 : ¬ (o + 7 = q) := by omega
    have l7 : ¬ (q = o + 7) := by omega
    have m8 : ¬ (o + 8 = q) := by omega
    have l8 : ¬ (q = o + 8) := by omega
    have m9 : ¬ (o + 9 = q) := by omega
    have l9 : ¬ (q = o + 9) := by omega
    have m10 : ¬ (o + 10 = q) := by omega
    have l10 : ¬ (q = o + 10) := by omega
    clear h
    go_simp

/-- 'append([]Block{}, kids...)'. -/
theorem app_kids {W : World} {g : G} {kids : List PV} {bk off c' : Nat} (hp : PRep Try.prog W g (.sl 27) (.sl kids) (.slice (some ⟨bk, off, none⟩) kids.length c')) (hpos : 0 < kids.length) (hl : kids.length * 160 ≤ room) (ty : TypeId) :
    ∃ (b cap : Nat) (w' : World) (f : Nat → Value), (Builtin.append_ #[25, 25] ty #[.slice (some ⟨W.heap.size, 0, none⟩) 0 0, .slice (some ⟨bk, off, none⟩) kids.length c']).run Try.prog (W.alloc (.cells #[] 27)) = .ok (.slice (some ⟨b, 0, none⟩) kids.length cap) w' ∧
      W.heap.size ≤ b ∧ b < w'.heap.size ∧ kids.length ≤ cap ∧ (∀ j, w'.frozen? ⟨b, j, none⟩ = false) ∧ (∀ (i : Nat) (y : PV), kids[i]? = some y → PRep Try.prog W g (.st 27) y (f i)) ∧ (∀ i, i < kids.length → ∀ j, j < 11 → w'.cell? ⟨b, i * 11 + j, none⟩ = (f i).cells[j]?) ∧
      (∀ i, i < kids.length → ∀ j, j < 11 → ∃ u, w'.cell? ⟨b, i * 11 + j, none⟩ = some u) ∧ Below W.heap.size W w' := by
  obtain ⟨i, hi, hz0, hz1, hz2⟩ := info_parts Try.inf27
  cases hp with
  | esl _ a => exact absurd hpos (by simp)
  | sl _ _ b off cap f h hc ht hb hl' =>
    obtain ⟨e1, e2, e3⟩ := els_of (w := W) (g := g) ok27 h
    rw [nBlk] at e1 e2 e3
    have hlen : (elCells f kids.length 11).length = kids.length * 11 := by have := e1.len; rw [nBlk] at this; exact this
    have hown : (W.alloc (.cells #[] 27)).ownsRow W.heap.size 27 11 (.slice (some ⟨W.heap.size, 0, none⟩) 0 0) 0 [] := World.ownsRow_lit W #[] 0 (Nat.le_refl _) (Nat.zero_le _) (by simp)
    have hwb : Below W.heap.size W (W.alloc (.cells #[] 27)) := b_alloc (Below.refl _ _) _
    obtain ⟨v', w', hr, hown', hg, hnil⟩ := run_append_own (P := Try.prog) (W.alloc (.cells #[] 27)) W.heap.size 25 ty 27 i _ 11 160 Try.u25 hi hz0 hz1 hz2 rfl (by decide) _ 0 [] hown ⟨bk, off, none⟩ kids.length c' (elCells f kids.length 11) hlen
      (fun j u hu => by
        have hj := (List.getElem?_eq_some_iff.1 hu).1
        rw [hlen] at hj
        have hd : j / 11 < kids.length := by omega
        have hm : j % 11 < 11 := Nat.mod_lt _ (by decide)
        have hcc := hc _ hd _ (by rw [nBlk]; exact hm)
        have hk := elCells_get e3 hd hm
        rw [nBlk] at hcc
        have hjj : off + j / 11 * 11 + j % 11 = off + j := by omega
        have hjj2 : j / 11 * 11 + j % 11 = j := by omega
        rw [hjj] at hcc
        rw [hjj2] at hk
        rw [Addr.add_lit, hwb.cell hb, hcc, ← hk, hu]) e2 (by unfold maxLen; unfold room at hl; omega) (by unfold room at hl; omega) (by simp)
    rw [Nat.zero_add, List.nil_append] at hown'
    rcases hown'.2 with ⟨h1, h2⟩ | ⟨b', cap', cur, rfl, h2, h3, h4, h5, h6, h7⟩
    · omega
    · have hbs : b' < w'.heap.size := by
        rcases Nat.lt_or_ge b' w'.heap.size with h' | h'
        · exact h'
        · rw [Array.getElem?_eq_none h'] at h3; cases h3
      have hcell : ∀ i, i < kids.length → ∀ j, j < 11 → w'.cell? ⟨b', i * 11 + j, none⟩ = (f i).cells[j]? := fun i hi j hj => by
        rw [hown'.cellAt (i * 11 + j) (by omega)]
        exact elCells_get e3 hi hj
      refine ⟨b', cap', w', f, hr, h2, hbs, h4, fun j => hown'.frozenAt j, fun i y hy => by have := h i y hy; rw [tBlk] at this; exact this, hcell, fun i hi j hj => ?_, hwb.grown hg (by simp) (fun k h => by cases h; exact Nat.le_refl _)⟩
      rw [hcell i hi j hj]
      have := e3 i hi
      exact ⟨_, Array.getElem?_eq_getElem (by omega)⟩

theorem wpList_kids {W : World} {ops : Array Oper} {rest : List Oper} {o : Oper} {a : Act} {Q : Exit → Act → World → Prop} (hgd : o.guard = none) (s x : Operand)
    (ho : o.op = .call { callee := .builtin .append, args := #[s, x], argTypes := #[25, 25] }) {N46 : Nat} (hN : N46 = W.heap.size) (hs : a.eval s = .slice (some ⟨N46, 0, none⟩) 0 0) {g : G} {kids : List PV} {bk off c' : Nat} (hx : a.eval x = .slice (some ⟨bk, off, none⟩) kids.length c')
    (hp : PRep Try.prog W g (.sl 27) (.sl kids) (.slice (some ⟨bk, off, none⟩) kids.length c')) (hpos : 0 < kids.length) (hl : kids.length * 160 ≤ room)
    (h : ∀ (b cap : Nat) (w' : World) (f : Nat → Value), W.heap.size ≤ b → b < w'.heap.size → kids.length ≤ cap → (∀ j, w'.frozen? ⟨b, j, none⟩ = false) → (∀ (i : Nat) (y : PV), kids[i]? = some y → PRep Try.prog W g (.st 27) y (f i)) → (∀ i, i < kids.length → ∀ j, j < 11 → w'.cell? ⟨b, i * 11 + j, none⟩ = (f i).cells[j]?) →
      (∀ i, i < kids.length → ∀ j, j < 11 → ∃ u, w'.cell? ⟨b, i * 11 + j, none⟩ = some u) → Below W.heap.size W w' → wpList Try.prog ops Q rest (a.put o.dst (.slice (some ⟨b, 0, none⟩) kids.length cap)) w') : wpList Try.prog ops Q (o :: rest) a (W.alloc (.cells #[] 27)) := by
  subst hN
  refine wpList_plain hgd fun K hK => ?_
  obtain ⟨b, cap, w', f, hr, h1, h2, h3, h4, h5, h6, h7, h8⟩ := app_kids hp hpos hl o.type
  refine wp_kid s x ho hs hx hr ?_
  exact hK _ _ (h b cap w' f h1 h2 h3 h4 h5 h6 h7 h8)

end Go.V
