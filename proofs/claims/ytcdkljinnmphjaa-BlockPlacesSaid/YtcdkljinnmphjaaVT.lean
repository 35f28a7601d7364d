/- The reference's Put, walked through its call of itself, where that fails and where it does not. Conditions: those that each theorem names. -/
import Derived.Test.YtcdkljinnmphjaaVS
set_option maxRecDepth 100000
set_option maxHeartbeats 4000000
set_option linter.unusedSimpArgs false
set_option linter.unusedVariables false
namespace Go.V
open Go.Proofs Go.RowKit

/-- The invariant of the reference's region that draws. -/
def I6 (s : Nat) (mk : Value → Value → Value → Value → Value → Value → Value → Value → Value → Value → Value → Value → Value → Value → Act) (W6 : World) (A : Nat → Prop) (y : PV) (e : Int) (ks v1 v2 pls plr : Value) (k bk off : Nat) (x0 x1 x2 x3 x4 x5 x6 x7 x8 x9 x10 x11 x12 x13 x14 : Bool) (a : Act) (w : World) : Prop :=
  ∃ (t9 t10 t29 t30 t31 t32 t33 t34 t35 t36 t37 t38 t39 t40 v' : Value) (S : Nat → Prop) (N : Nat), a = mk t9 t10 t29 t30 t31 t32 t33 t34 t35 t36 t37 t38 t39 t40 ∧
    (x0 = true → t30 = (.pointer (some ⟨s, 10, none⟩))) ∧
    (x1 = true → t31 = ks) ∧
    (x2 = true → t32 = (.int .i64 k)) ∧
    (x3 = true → t33 = (.pointer (some ⟨bk, off + k * 11, none⟩))) ∧
    (x4 = true → t34 = v2) ∧
    (x5 = true → t35 = pls) ∧
    (x6 = true → t36 = plr) ∧
    (x7 = true → t37 = v1) ∧
    (x8 = true → t38 = .tuple #[v', .int .i64 e]) ∧ (x9 = true → t29 = .tuple #[v', .int .i64 e]) ∧ (x10 = true → t39 = v') ∧ (x11 = true → t40 = .int .i64 e) ∧ (x14 = true → t10 = .int .i64 e) ∧
    Below W6.heap.size W6 w ∧ (∀ b, S b → b < w.heap.size ∧ (A b ∨ W6.heap.size ≤ b)) ∧ (x8 = true → IsV v' ∧ PRep Try.prog w (gS S) (.st 27) y v') ∧
    (x12 = true → t9 = .pointer (some ⟨N, 0, none⟩) ∧ W6.heap.size ≤ N ∧ N < w.heap.size ∧ ¬ S N ∧ (∀ j, j < 11 → (∃ u, w.cell? ⟨N, j, none⟩ = some u) ∧ w.frozen? ⟨N, j, none⟩ = false) ∧ (x13 = true → ∀ j, j < 11 → w.cell? ⟨N, j, none⟩ = v'.cells[j]?))


theorem isV_blk (op name : ByteArray) (n m : Int) (o : Option Addr) (l c : Nat) (fk : ByteArray) (fa fb : Int) (fc fd : ByteArray) (o' : Option Addr) (l' c' : Nat) : IsV (.agg #[.string op, .string name, .int .i64 n, .int .i64 m, .slice o l c, .string fk, .int .i64 fa, .int .i64 fb, .string fc, .string fd, .slice o' l' c']) := ⟨op, name, n, m, o, l, c, fk, fa, fb, fc, fd, o', l', c', rfl⟩

theorem ref_post {w V w2 wa wb wc : World} {A S : Nat → Prop} {op name : ByteArray} {n m : Int} {o : Option Addr} {l c : Nat} {fk : ByteArray} {fa fb : Int} {fc fd : ByteArray} {nums kids : List PV} {k b cap : Nat} {f : Nat → Value} {y : PV} {v3 : Value} {X : Obj}
    (hA : ∀ q, A q → q < w.heap.size) (hk : k < kids.length) (hbV : Below w.heap.size w V) (hsV : w.heap.size + 3 ≤ V.heap.size)
    (hn : PRep Try.prog w (gS A) (.sl 38) (.sl nums) (.slice o l c)) (hr : PRep Try.prog V (gS S) (.st 27) y v3) (hS : ∀ q, S q → q < V.heap.size ∧ (A q ∨ w.heap.size + 3 ≤ q))
    (hb1 : (V.alloc X).heap.size ≤ b) (hb2 : b < w2.heap.size) (hb3 : kids.length ≤ cap) (hbr : ∀ (i : Nat) (y : PV), kids[i]? = some y → PRep Try.prog (V.alloc X) (gS A) (.st 27) y (f i)) (hbc : ∀ i, i < kids.length → ∀ j, j < 11 → w2.cell? ⟨b, i * 11 + j, none⟩ = (f i).cells[j]?)
    (hbw : Below (V.alloc X).heap.size (V.alloc X) w2) (ta : Tch V.heap.size w2 wa)
    (tb : Tch b wa wb ∧ (∀ j, j < 11 → wb.cell? ⟨b, k * 11 + j, none⟩ = v3.cells[j]?) ∧ (∀ q, (q < k * 11 ∨ k * 11 + 11 ≤ q) → wb.cell? ⟨b, q, none⟩ = wa.cell? ⟨b, q, none⟩)) (tc : Tch (w.heap.size + 1 + 1) wb wc) :
    ∃ S', Below w.heap.size w wc ∧ PRep Try.prog wc (gS S') (.st 27) (blkP op name n m nums fk fa fb fc fd (kids.set k y)) (.agg #[.string op, .string name, .int .i64 n, .int .i64 m, .slice o l c, .string fk, .int .i64 fa, .int .i64 fb, .string fc, .string fd, .slice (some ⟨b, 0, none⟩) kids.length cap]) ∧ ∀ q, S' q → q < wc.heap.size ∧ (A q ∨ w.heap.size ≤ q) := by
  obtain ⟨tb, tbc, tbo⟩ := tb
  have hVA : Below V.heap.size V (V.alloc X) := b_alloc (Below.refl _ _) X
  have hsA : (V.alloc X).heap.size = V.heap.size + 1 := by simp
  have h2 : Below V.heap.size V w2 := hVA.trans (hbw.mono (by omega))
  have hs2 := h2.size
  have hs3 := hbw.size
  have hsc : wc.heap.size = w2.heap.size := by rw [tc.size, tb.size, ta.size]
  have hold : ∀ q, q < (V.alloc X).heap.size → q ≠ V.heap.size → q ≠ w.heap.size + 1 + 1 → wc.heap[q]? = (V.alloc X).heap[q]? := fun q h1 h3 h4 => (tc.block q h4).trans ((tb.block q (by omega)).trans ((ta.block q h3).trans (hbw.block q h1)))
  have holdV : ∀ q, q < V.heap.size → q ≠ w.heap.size + 1 + 1 → wc.heap[q]? = V.heap[q]? := fun q h1 h4 => (hold q (by omega) (by omega) h4).trans (hVA.block q h1)
  have holdw : ∀ q, q < w.heap.size → wc.heap[q]? = w.heap[q]? := fun q h1 => (holdV q (by omega) (by omega)).trans (hbV.block q h1)
  refine ⟨fun q => S q ∨ A q ∨ q = b, ⟨tc.os.trans (tb.os.trans (ta.os.trans (h2.os.trans hbV.os))), tc.tape.trans (tb.tape.trans (ta.tape.trans (h2.tape.trans hbV.tape))), tc.output.trans (tb.output.trans (ta.output.trans (h2.output.trans hbV.output))), by omega, holdw⟩, ?_, fun q hq => ?_⟩
  · refine rep_blk (hn.ext (by omega) fun q hq ht => ⟨gS_free.2 (.inr (.inl (gS_free.1 ht))), holdw q hq⟩) ?_
    have hlen : (kids.set k y).length = kids.length := List.length_set
    rw [← hlen]
    refine .sl 27 (kids.set k y) b 0 cap (fun i => if i = k then v3 else f i) (fun i u hu => ?_) (fun i hi j hj => ?_) (gS_free.2 (.inr (.inr rfl))) (by omega) (by rw [hlen]; exact hb3)
    · rw [tBlk]
      by_cases hik : i = k
      · subst hik
        rw [List.getElem?_set_self hk] at hu
        cases hu
        simp only [if_true]
        refine hr.ext (by omega) fun q hq ht => ⟨gS_free.2 (.inl (gS_free.1 ht)), holdV q hq ?_⟩
        rcases (hS q (gS_free.1 ht)).2 with h | h
        · have := hA q h; omega
        · omega
      · rw [List.getElem?_set_ne (fun e => hik e.symm)] at hu
        simp only [hik, if_false]
        refine (hbr i u hu).ext (by omega) fun q hq ht => ⟨gS_free.2 (.inr (.inl (gS_free.1 ht))), ?_⟩
        have := hA q (gS_free.1 ht)
        exact hold q (by omega) (by omega) (by omega)
    · rw [nBlk] at hj ⊢
      rw [hlen] at hi
      rw [Nat.zero_add, World.cell?_of_block (w := wb) (a := ⟨b, i * 11 + j, none⟩) (tc.block b (by omega))]
      by_cases hik : i = k
      · subst hik
        simp only [if_true]
        exact tbc j hj
      · simp only [hik, if_false]
        rw [tbo _ (by omega), World.cell?_of_block (w := w2) (a := ⟨b, i * 11 + j, none⟩) (ta.block b (by omega))]
        exact hbc i hi j hj
  · rcases hq with h | h | h
    · obtain ⟨a1, a2⟩ := hS q h; exact ⟨by omega, a2.imp_right fun h => by omega⟩
    · exact ⟨by have := hA q h; omega, .inl h⟩
    · exact ⟨by omega, .inr (by omega)⟩

theorem ref_err (w : World) (op name : ByteArray) (n m : Int) (o : Option Addr) (l c : Nat) (fk : ByteArray) (fa fb : Int) (fc fd : ByteArray) (bk off c' : Nat) (kids : List PV)
    (op1 name1 : ByteArray) (n1 m1 : Int) (o1 : Option Addr) (l1 c1 : Nat) (fk1 : ByteArray) (fa1 fb1 : Int) (fc1 fd1 : ByteArray) (o1' : Option Addr) (l1' c1' : Nat)
    (op2 name2 : ByteArray) (n2 m2 : Int) (o2 : Option Addr) (l2 c2 : Nat) (fk2 : ByteArray) (fa2 fb2 : Int) (fc2 fd2 : ByteArray) (o2' : Option Addr) (l2' c2' : Nat)
    (pb po pl pc : Nat) (k : Nat) (hp : w.cell? ⟨pb, po, none⟩ = some (.int .i64 k)) (hk : k < kids.length) (hpc : pl + 1 ≤ pc) (po1 : Nat) (hpo : (pc = 1 ∧ po1 = po) ∨ (1 < pc ∧ po1 = po + 1))
    (k0 : ∀ j, j < 11 → w.cell? ⟨bk, off + k * 11 + j, none⟩ = (.agg #[.string op2, .string name2, .int .i64 n2, .int .i64 m2, .slice o2 l2 c2, .string fk2, .int .i64 fa2, .int .i64 fb2, .string fc2, .string fd2, .slice o2' l2' c2'] : Value).cells[j]?) (A : Nat → Prop) (hA : ∀ b, A b → b < w.heap.size) (y : PV)
    (ih : ∀ W, Below w.heap.size w W → Calls Try.prog 9 #[.agg #[.string op2, .string name2, .int .i64 n2, .int .i64 m2, .slice o2 l2 c2, .string fk2, .int .i64 fa2, .int .i64 fb2, .string fc2, .string fd2, .slice o2' l2' c2'], .slice (some ⟨pb, po1, none⟩) pl (pc - 1), .agg #[.string op1, .string name1, .int .i64 n1, .int .i64 m1, .slice o1 l1 c1, .string fk1, .int .i64 fa1, .int .i64 fb1, .string fc1, .string fd1, .slice o1' l1' c1']] W fun e w' =>
      ∃ v' S, e = .returned (.tuple #[v', .int .i64 2]) ∧ IsV v' ∧ Below W.heap.size W w' ∧ PRep Try.prog w' (gS S) (.st 27) y v' ∧ ∀ b, S b → b < w'.heap.size ∧ (A b ∨ W.heap.size ≤ b)) :
    Calls Try.prog 9 #[.agg #[.string op, .string name, .int .i64 n, .int .i64 m, .slice o l c, .string fk, .int .i64 fa, .int .i64 fb, .string fc, .string fd, .slice (some ⟨bk, off, none⟩) kids.length c'], .slice (some ⟨pb, po, none⟩) (pl + 1) pc, .agg #[.string op1, .string name1, .int .i64 n1, .int .i64 m1, .slice o1 l1 c1, .string fk1, .int .i64 fa1, .int .i64 fb1, .string fc1, .string fd1, .slice o1' l1' c1']] w fun e w' => e = .returned (.tuple #[.agg #[.string ⟨#[]⟩, .string ⟨#[]⟩, .int .i64 0, .int .i64 0, .slice none 0 0, .string ⟨#[]⟩, .int .i64 0, .int .i64 0, .string ⟨#[]⟩, .string ⟨#[]⟩, .slice none 0 0], .int .i64 2]) ∧ Below w.heap.size w w' := by
  have hlp : pb < w.heap.size := World.block_lt_of_cell? _ _ hp
  have hlk : bk < w.heap.size := World.block_lt_of_cell? _ _ (k0 0 (by decide))
  have hlp1 : pb < w.heap.size + 1 := by omega
  have hlp2 : pb < w.heap.size + 1 + 1 := by omega
  have hpl : ¬ ((pl : Int) + 1 = 0) := by omega
  have h0 : ¬ ((k : Int) < 0) := by omega
  have h1 : ¬ ((kids.length : Int) ≤ (k : Int)) := by omega
  have hk' : (k : Int) < (kids.length : Int) := by omega
  go_enter Try.func9, Try.ntmps9
  go_wp2_with fail
  obtain ⟨W3, hW3⟩ : ∃ W3, W3 = ((w.alloc (.cells #[.string op, .string name, .int .i64 n, .int .i64 m, .slice o l c, .string fk, .int .i64 fa, .int .i64 fb, .string fc, .string fd, .slice (some ⟨bk, off, none⟩) kids.length c'] 27)).alloc (.cells #[.string op1, .string name1, .int .i64 n1, .int .i64 m1, .slice o1 l1 c1, .string fk1, .int .i64 fa1, .int .i64 fb1, .string fc1, .string fd1, .slice o1' l1' c1'] 27)).alloc (.cells #[.string ⟨#[]⟩, .string ⟨#[]⟩, .int .i64 0, .int .i64 0, .slice none 0 0, .string ⟨#[]⟩, .int .i64 0, .int .i64 0, .string ⟨#[]⟩, .string ⟨#[]⟩, .slice none 0 0] 27) := ⟨_, rfl⟩
  have hb3 : Below w.heap.size w W3 := by rw [hW3]; exact (((Below.refl w.heap.size w).alloc (Nat.le_refl _) _).alloc (by simp) _).alloc (by simp; omega) _
  have hs3 : W3.heap.size = w.heap.size + 3 := by rw [hW3]; simp
  have q0 : W3.cell? ⟨bk, off + k * 11, none⟩ = some (.string op2) := by rw [World.cell?_of_block (w := w) (hb3.block bk hlk)]; exact k0 0 (by decide)
  have f0 : W3.cell? ⟨w.heap.size, 0, none⟩ = some (.string op) := by rw [hW3]; go_simp
  have gx0 : W3.cell? ⟨w.heap.size + 1, 0, none⟩ = some (.string op1) := by rw [hW3]; go_simp
  have r0 : W3.cell? ⟨w.heap.size + 1 + 1, 0, none⟩ = some (.string ⟨#[]⟩) := by rw [hW3]; go_simp
  have rz0 : W3.frozen? ⟨w.heap.size + 1 + 1, 0, none⟩ = false := by rw [hW3]; go_simp
  have q1 : W3.cell? ⟨bk, off + k * 11 + 1, none⟩ = some (.string name2) := by rw [World.cell?_of_block (w := w) (hb3.block bk hlk)]; exact k0 1 (by decide)
  have f1 : W3.cell? ⟨w.heap.size, 1, none⟩ = some (.string name) := by rw [hW3]; go_simp
  have gx1 : W3.cell? ⟨w.heap.size + 1, 1, none⟩ = some (.string name1) := by rw [hW3]; go_simp
  have r1 : W3.cell? ⟨w.heap.size + 1 + 1, 1, none⟩ = some (.string ⟨#[]⟩) := by rw [hW3]; go_simp
  have rz1 : W3.frozen? ⟨w.heap.size + 1 + 1, 1, none⟩ = false := by rw [hW3]; go_simp
  have q2 : W3.cell? ⟨bk, off + k * 11 + 2, none⟩ = some (.int .i64 n2) := by rw [World.cell?_of_block (w := w) (hb3.block bk hlk)]; exact k0 2 (by decide)
  have f2 : W3.cell? ⟨w.heap.size, 2, none⟩ = some (.int .i64 n) := by rw [hW3]; go_simp
  have gx2 : W3.cell? ⟨w.heap.size + 1, 2, none⟩ = some (.int .i64 n1) := by rw [hW3]; go_simp
  have r2 : W3.cell? ⟨w.heap.size + 1 + 1, 2, none⟩ = some (.int .i64 0) := by rw [hW3]; go_simp
  have rz2 : W3.frozen? ⟨w.heap.size + 1 + 1, 2, none⟩ = false := by rw [hW3]; go_simp
  have q3 : W3.cell? ⟨bk, off + k * 11 + 3, none⟩ = some (.int .i64 m2) := by rw [World.cell?_of_block (w := w) (hb3.block bk hlk)]; exact k0 3 (by decide)
  have f3 : W3.cell? ⟨w.heap.size, 3, none⟩ = some (.int .i64 m) := by rw [hW3]; go_simp
  have gx3 : W3.cell? ⟨w.heap.size + 1, 3, none⟩ = some (.int .i64 m1) := by rw [hW3]; go_simp
  have r3 : W3.cell? ⟨w.heap.size + 1 + 1, 3, none⟩ = some (.int .i64 0) := by rw [hW3]; go_simp
  have rz3 : W3.frozen? ⟨w.heap.size + 1 + 1, 3, none⟩ = false := by rw [hW3]; go_simp
  have q4 : W3.cell? ⟨bk, off + k * 11 + 4, none⟩ = some (.slice o2 l2 c2) := by rw [World.cell?_of_block (w := w) (hb3.block bk hlk)]; exact k0 4 (by decide)
  have f4 : W3.cell? ⟨w.heap.size, 4, none⟩ = some (.slice o l c) := by rw [hW3]; go_simp
  have gx4 : W3.cell? ⟨w.heap.size + 1, 4, none⟩ = some (.slice o1 l1 c1) := by rw [hW3]; go_simp
  have r4 : W3.cell? ⟨w.heap.size + 1 + 1, 4, none⟩ = some (.slice none 0 0) := by rw [hW3]; go_simp
  have rz4 : W3.frozen? ⟨w.heap.size + 1 + 1, 4, none⟩ = false := by rw [hW3]; go_simp
  have q5 : W3.cell? ⟨bk, off + k * 11 + 5, none⟩ = some (.string fk2) := by rw [World.cell?_of_block (w := w) (hb3.block bk hlk)]; exact k0 5 (by decide)
  have f5 : W3.cell? ⟨w.heap.size, 5, none⟩ = some (.string fk) := by rw [hW3]; go_simp
  have gx5 : W3.cell? ⟨w.heap.size + 1, 5, none⟩ = some (.string fk1) := by rw [hW3]; go_simp
  have r5 : W3.cell? ⟨w.heap.size + 1 + 1, 5, none⟩ = some (.string ⟨#[]⟩) := by rw [hW3]; go_simp
  have rz5 : W3.frozen? ⟨w.heap.size + 1 + 1, 5, none⟩ = false := by rw [hW3]; go_simp
  have q6 : W3.cell? ⟨bk, off + k * 11 + 6, none⟩ = some (.int .i64 fa2) := by rw [World.cell?_of_block (w := w) (hb3.block bk hlk)]; exact k0 6 (by decide)
  have f6 : W3.cell? ⟨w.heap.size, 6, none⟩ = some (.int .i64 fa) := by rw [hW3]; go_simp
  have gx6 : W3.cell? ⟨w.heap.size + 1, 6, none⟩ = some (.int .i64 fa1) := by rw [hW3]; go_simp
  have r6 : W3.cell? ⟨w.heap.size + 1 + 1, 6, none⟩ = some (.int .i64 0) := by rw [hW3]; go_simp
  have rz6 : W3.frozen? ⟨w.heap.size + 1 + 1, 6, none⟩ = false := by rw [hW3]; go_simp
  have q7 : W3.cell? ⟨bk, off + k * 11 + 7, none⟩ = some (.int .i64 fb2) := by rw [World.cell?_of_block (w := w) (hb3.block bk hlk)]; exact k0 7 (by decide)
  have f7 : W3.cell? ⟨w.heap.size, 7, none⟩ = some (.int .i64 fb) := by rw [hW3]; go_simp
  have gx7 : W3.cell? ⟨w.heap.size + 1, 7, none⟩ = some (.int .i64 fb1) := by rw [hW3]; go_simp
  have r7 : W3.cell? ⟨w.heap.size + 1 + 1, 7, none⟩ = some (.int .i64 0) := by rw [hW3]; go_simp
  have rz7 : W3.frozen? ⟨w.heap.size + 1 + 1, 7, none⟩ = false := by rw [hW3]; go_simp
  have q8 : W3.cell? ⟨bk, off + k * 11 + 8, none⟩ = some (.string fc2) := by rw [World.cell?_of_block (w := w) (hb3.block bk hlk)]; exact k0 8 (by decide)
  have f8 : W3.cell? ⟨w.heap.size, 8, none⟩ = some (.string fc) := by rw [hW3]; go_simp
  have gx8 : W3.cell? ⟨w.heap.size + 1, 8, none⟩ = some (.string fc1) := by rw [hW3]; go_simp
  have r8 : W3.cell? ⟨w.heap.size + 1 + 1, 8, none⟩ = some (.string ⟨#[]⟩) := by rw [hW3]; go_simp
  have rz8 : W3.frozen? ⟨w.heap.size + 1 + 1, 8, none⟩ = false := by rw [hW3]; go_simp
  have q9 : W3.cell? ⟨bk, off + k * 11 + 9, none⟩ = some (.string fd2) := by rw [World.cell?_of_block (w := w) (hb3.block bk hlk)]; exact k0 9 (by decide)
  have f9 : W3.cell? ⟨w.heap.size, 9, none⟩ = some (.string fd) := by rw [hW3]; go_simp
  have gx9 : W3.cell? ⟨w.heap.size + 1, 9, none⟩ = some (.string fd1) := by rw [hW3]; go_simp
  have r9 : W3.cell? ⟨w.heap.size + 1 + 1, 9, none⟩ = some (.string ⟨#[]⟩) := by rw [hW3]; go_simp
  have rz9 : W3.frozen? ⟨w.heap.size + 1 + 1, 9, none⟩ = false := by rw [hW3]; go_simp
  have q10 : W3.cell? ⟨bk, off + k * 11 + 10, none⟩ = some (.slice o2' l2' c2') := by rw [World.cell?_of_block (w := w) (hb3.block bk hlk)]; exact k0 10 (by decide)
  have f10 : W3.cell? ⟨w.heap.size, 10, none⟩ = some (.slice (some ⟨bk, off, none⟩) kids.length c') := by rw [hW3]; go_simp
  have gx10 : W3.cell? ⟨w.heap.size + 1, 10, none⟩ = some (.slice o1' l1' c1') := by rw [hW3]; go_simp
  have r10 : W3.cell? ⟨w.heap.size + 1 + 1, 10, none⟩ = some (.slice none 0 0) := by rw [hW3]; go_simp
  have rz10 : W3.frozen? ⟨w.heap.size + 1 + 1, 10, none⟩ = false := by rw [hW3]; go_simp
  rw [← hW3]
  clear hW3
  refine region_inv (fun X a w' => I6 w.heap.size (fun t9 t10 t29 t30 t31 t32 t33 t34 t35 t36 t37 t38 t39 t40 => ⟨#[.agg #[.string op, .string name, .int .i64 n, .int .i64 m, .slice o l c, .string fk, .int .i64 fa, .int .i64 fb, .string fc, .string fd, .slice (some ⟨bk, off, none⟩) kids.length c'], .slice (some ⟨pb, po, none⟩) (pl + 1) pc, .agg #[.string op1, .string name1, .int .i64 n1, .int .i64 m1, .slice o1 l1 c1, .string fk1, .int .i64 fa1, .int .i64 fb1, .string fc1, .string fd1, .slice o1' l1' c1'], .pointer (some ⟨w.heap.size, 0, none⟩), undef, .pointer (some ⟨w.heap.size + 1, 0, none⟩), .pointer (some ⟨w.heap.size + 1 + 1, 0, none⟩), .int .i64 0, .int .i64 (k : Int), t9, t10, undef, .slice (some ⟨pb, po, none⟩) (pl + 1) pc, .int .i64 ((pl : Int) + 1), .bool false, undef, .slice (some ⟨pb, po, none⟩) (pl + 1) pc, .pointer (some ⟨pb, po, none⟩), .int .i64 (k : Int), .int .i64 (k : Int), .bool false, .bool false, .int .i64 (k : Int), .pointer (some ⟨w.heap.size, 10, none⟩), .slice (some ⟨bk, off, none⟩) kids.length c', .int .i64 (kids.length : Int), .bool false, .bool false, undef, t29, t30, t31, t32, t33, t34, t35, t36, t37, t38, t39, t40, undef, undef, undef, undef, undef, undef, undef, undef, undef, undef, undef, undef, undef, undef, undef, undef], []⟩) W3.drew A y 2 (.slice (some ⟨bk, off, none⟩) kids.length c') (.agg #[.string op1, .string name1, .int .i64 n1, .int .i64 m1, .slice o1 l1 c1, .string fk1, .int .i64 fa1, .int .i64 fb1, .string fc1, .string fd1, .slice o1' l1' c1']) (.agg #[.string op2, .string name2, .int .i64 n2, .int .i64 m2, .slice o2 l2 c2, .string fk2, .int .i64 fa2, .int .i64 fb2, .string fc2, .string fd2, .slice o2' l2' c2']) (.slice (some ⟨pb, po, none⟩) (pl + 1) pc) (.slice (some ⟨pb, po1, none⟩) pl (pc - 1)) k bk off (X 0) (X 1) (X 2) (X 3) (X 4) (X 5) (X 6) (X 7) (X 8) (X 9) (X 10) (X 11) (X 12) (X 13) (X 14) a w') (by kernel_rfl) (by kernel_rfl) (by kernel_rfl) ?_ ?_ ?_
  · exact ⟨_, _, _, _, _, _, _, _, _, _, _, _, _, _, undef, fun _ => False, 0, rfl, fun h => (by cases h), fun h => (by cases h), fun h => (by cases h), fun h => (by cases h), fun h => (by cases h), fun h => (by cases h), fun h => (by cases h), fun h => (by cases h), fun h => (by cases h), fun h => (by cases h), fun h => (by cases h), fun h => (by cases h), fun h => (by cases h), Below.refl _ _, fun _ h => h.elim, fun h => (by cases h), fun h => (by cases h)⟩
  · intro i oo ho
    match i, ho with
    | 0, ho =>
      obtain rfl := Option.some.inj ho
      rintro X a W K hX hpre ⟨t9, t10, t29, t30, t31, t32, t33, t34, t35, t36, t37, t38, t39, t40, v', S, N, rfl, i0, i1, i2, i3, i4, i5, i6, i7, g8, g9, g10, g11, g14, hB, hS, hV, hN⟩ hK
      have hBs : W3.heap.size ≤ W.heap.size := hB.size
      clear ih k0 q0 f0 gx0 r0 rz0 q1 f1 gx1 r1 rz1 q2 f2 gx2 r2 rz2 q3 f3 gx3 r3 rz3 q4 f4 gx4 r4 rz4 q5 f5 gx5 r5 rz5 q6 f6 gx6 r6 rz6 q7 f7 gx7 r7 rz7 q8 f8 gx8 r8 rz8 q9 f9 gx9 r9 rz9 q10 f10 gx10 r10 rz10
      go_simp
      apply hK
      simp only [Nat.reduceEqDiff, decide_false, decide_true, Bool.or_false, Bool.or_true]
      exact ⟨_, _, _, _, _, _, _, _, _, _, _, _, _, _, v', S, N, rfl, fun _ => rfl, i1, i2, i3, i4, i5, i6, i7, g8, g9, g10, g11, g14, hB, hS, hV, hN⟩
    | 1, ho =>
      obtain rfl := Option.some.inj ho
      rintro X a W K hX hpre ⟨t9, t10, t29, t30, t31, t32, t33, t34, t35, t36, t37, t38, t39, t40, v', S, N, rfl, i0, i1, i2, i3, i4, i5, i6, i7, g8, g9, g10, g11, g14, hB, hS, hV, hN⟩ hK
      have hBs : W3.heap.size ≤ W.heap.size := hB.size
      have d0 := i0 (hpre.1 ⟨0, .data⟩ (by simp) rfl)
      subst d0
      have z : W.cell? ⟨w.heap.size, 10, none⟩ = _ := (hB.cell (show w.heap.size < W3.heap.size by omega)).trans f10
      clear ih k0 q0 f0 gx0 r0 rz0 q1 f1 gx1 r1 rz1 q2 f2 gx2 r2 rz2 q3 f3 gx3 r3 rz3 q4 f4 gx4 r4 rz4 q5 f5 gx5 r5 rz5 q6 f6 gx6 r6 rz6 q7 f7 gx7 r7 rz7 q8 f8 gx8 r8 rz8 q9 f9 gx9 r9 rz9 q10 f10 gx10 r10 rz10
      go_simp
      apply hK
      simp only [Nat.reduceEqDiff, decide_false, decide_true, Bool.or_false, Bool.or_true]
      exact ⟨_, _, _, _, _, _, _, _, _, _, _, _, _, _, v', S, N, rfl, fun _ => rfl, fun _ => rfl, i2, i3, i4, i5, i6, i7, g8, g9, g10, g11, g14, hB, hS, hV, hN⟩
    | 2, ho =>
      obtain rfl := Option.some.inj ho
      rintro X a W K hX hpre ⟨t9, t10, t29, t30, t31, t32, t33, t34, t35, t36, t37, t38, t39, t40, v', S, N, rfl, i0, i1, i2, i3, i4, i5, i6, i7, g8, g9, g10, g11, g14, hB, hS, hV, hN⟩ hK
      have hBs : W3.heap.size ≤ W.heap.size := hB.size
      clear ih k0 q0 f0 gx0 r0 rz0 q1 f1 gx1 r1 rz1 q2 f2 gx2 r2 rz2 q3 f3 gx3 r3 rz3 q4 f4 gx4 r4 rz4 q5 f5 gx5 r5 rz5 q6 f6 gx6 r6 rz6 q7 f7 gx7 r7 rz7 q8 f8 gx8 r8 rz8 q9 f9 gx9 r9 rz9 q10 f10 gx10 r10 rz10
      go_simp
      apply hK
      simp only [Nat.reduceEqDiff, decide_false, decide_true, Bool.or_false, Bool.or_true]
      exact ⟨_, _, _, _, _, _, _, _, _, _, _, _, _, _, v', S, N, rfl, i0, i1, fun _ => rfl, i3, i4, i5, i6, i7, g8, g9, g10, g11, g14, hB, hS, hV, hN⟩
    | 3, ho =>
      obtain rfl := Option.some.inj ho
      rintro X a W K hX hpre ⟨t9, t10, t29, t30, t31, t32, t33, t34, t35, t36, t37, t38, t39, t40, v', S, N, rfl, i0, i1, i2, i3, i4, i5, i6, i7, g8, g9, g10, g11, g14, hB, hS, hV, hN⟩ hK
      have hBs : W3.heap.size ≤ W.heap.size := hB.size
      have d1 := i1 (hpre.1 ⟨1, .data⟩ (by simp) rfl)
      have d2 := i2 (hpre.1 ⟨2, .data⟩ (by simp) rfl)
      subst d1
      subst d2
      clear ih k0 q0 f0 gx0 r0 rz0 q1 f1 gx1 r1 rz1 q2 f2 gx2 r2 rz2 q3 f3 gx3 r3 rz3 q4 f4 gx4 r4 rz4 q5 f5 gx5 r5 rz5 q6 f6 gx6 r6 rz6 q7 f7 gx7 r7 rz7 q8 f8 gx8 r8 rz8 q9 f9 gx9 r9 rz9 q10 f10 gx10 r10 rz10
      go_simp
      apply hK
      simp only [Nat.reduceEqDiff, decide_false, decide_true, Bool.or_false, Bool.or_true]
      exact ⟨_, _, _, _, _, _, _, _, _, _, _, _, _, _, v', S, N, rfl, i0, fun _ => rfl, fun _ => rfl, fun _ => rfl, i4, i5, i6, i7, g8, g9, g10, g11, g14, hB, hS, hV, hN⟩
    | 4, ho =>
      obtain rfl := Option.some.inj ho
      rintro X a W K hX hpre ⟨t9, t10, t29, t30, t31, t32, t33, t34, t35, t36, t37, t38, t39, t40, v', S, N, rfl, i0, i1, i2, i3, i4, i5, i6, i7, g8, g9, g10, g11, g14, hB, hS, hV, hN⟩ hK
      have hBs : W3.heap.size ≤ W.heap.size := hB.size
      have d3 := i3 (hpre.1 ⟨3, .data⟩ (by simp) rfl)
      subst d3
      have z0 : W.cell? ⟨bk, off + k * 11, none⟩ = _ := (hB.cell (show bk < W3.heap.size by omega)).trans q0
      have z1 : W.cell? ⟨bk, off + k * 11 + 1, none⟩ = _ := (hB.cell (show bk < W3.heap.size by omega)).trans q1
      have z2 : W.cell? ⟨bk, off + k * 11 + 2, none⟩ = _ := (hB.cell (show bk < W3.heap.size by omega)).trans q2
      have z3 : W.cell? ⟨bk, off + k * 11 + 3, none⟩ = _ := (hB.cell (show bk < W3.heap.size by omega)).trans q3
      have z4 : W.cell? ⟨bk, off + k * 11 + 4, none⟩ = _ := (hB.cell (show bk < W3.heap.size by omega)).trans q4
      have z5 : W.cell? ⟨bk, off + k * 11 + 5, none⟩ = _ := (hB.cell (show bk < W3.heap.size by omega)).trans q5
      have z6 : W.cell? ⟨bk, off + k * 11 + 6, none⟩ = _ := (hB.cell (show bk < W3.heap.size by omega)).trans q6
      have z7 : W.cell? ⟨bk, off + k * 11 + 7, none⟩ = _ := (hB.cell (show bk < W3.heap.size by omega)).trans q7
      have z8 : W.cell? ⟨bk, off + k * 11 + 8, none⟩ = _ := (hB.cell (show bk < W3.heap.size by omega)).trans q8
      have z9 : W.cell? ⟨bk, off + k * 11 + 9, none⟩ = _ := (hB.cell (show bk < W3.heap.size by omega)).trans q9
      have z10 : W.cell? ⟨bk, off + k * 11 + 10, none⟩ = _ := (hB.cell (show bk < W3.heap.size by omega)).trans q10
      clear ih k0 q0 f0 gx0 r0 rz0 q1 f1 gx1 r1 rz1 q2 f2 gx2 r2 rz2 q3 f3 gx3 r3 rz3 q4 f4 gx4 r4 rz4 q5 f5 gx5 r5 rz5 q6 f6 gx6 r6 rz6 q7 f7 gx7 r7 rz7 q8 f8 gx8 r8 rz8 q9 f9 gx9 r9 rz9 q10 f10 gx10 r10 rz10
      go_simp
      apply hK
      simp only [Nat.reduceEqDiff, decide_false, decide_true, Bool.or_false, Bool.or_true]
      exact ⟨_, _, _, _, _, _, _, _, _, _, _, _, _, _, v', S, N, rfl, i0, i1, i2, fun _ => rfl, fun _ => rfl, i5, i6, i7, g8, g9, g10, g11, g14, hB, hS, hV, hN⟩
    | 5, ho =>
      obtain rfl := Option.some.inj ho
      rintro X a W K hX hpre ⟨t9, t10, t29, t30, t31, t32, t33, t34, t35, t36, t37, t38, t39, t40, v', S, N, rfl, i0, i1, i2, i3, i4, i5, i6, i7, g8, g9, g10, g11, g14, hB, hS, hV, hN⟩ hK
      have hBs : W3.heap.size ≤ W.heap.size := hB.size
      clear ih k0 q0 f0 gx0 r0 rz0 q1 f1 gx1 r1 rz1 q2 f2 gx2 r2 rz2 q3 f3 gx3 r3 rz3 q4 f4 gx4 r4 rz4 q5 f5 gx5 r5 rz5 q6 f6 gx6 r6 rz6 q7 f7 gx7 r7 rz7 q8 f8 gx8 r8 rz8 q9 f9 gx9 r9 rz9 q10 f10 gx10 r10 rz10
      go_simp
      apply hK
      simp only [Nat.reduceEqDiff, decide_false, decide_true, Bool.or_false, Bool.or_true]
      exact ⟨_, _, _, _, _, _, _, _, _, _, _, _, _, _, v', S, N, rfl, i0, i1, i2, i3, i4, fun _ => rfl, i6, i7, g8, g9, g10, g11, g14, hB, hS, hV, hN⟩
    | 6, ho =>
      obtain rfl := Option.some.inj ho
      rintro X a W K hX hpre ⟨t9, t10, t29, t30, t31, t32, t33, t34, t35, t36, t37, t38, t39, t40, v', S, N, rfl, i0, i1, i2, i3, i4, i5, i6, i7, g8, g9, g10, g11, g14, hB, hS, hV, hN⟩ hK
      have hBs : W3.heap.size ≤ W.heap.size := hB.size
      have d5 := i5 (hpre.1 ⟨5, .data⟩ (by simp) rfl)
      subst d5
      have h1p : (1 : Int) ≤ (pl : Int) + 1 := by omega
      have hif : (if pc = 1 then some (⟨pb, po, none⟩ : Addr) else some ⟨pb, po + 1, none⟩) = some ⟨pb, po1, none⟩ := by rcases hpo with ⟨h1, h2⟩ | ⟨h1, h2⟩ <;> subst h2 <;> first | rw [if_pos h1] | rw [if_neg (by omega)]
      clear hpo
      clear ih k0 q0 f0 gx0 r0 rz0 q1 f1 gx1 r1 rz1 q2 f2 gx2 r2 rz2 q3 f3 gx3 r3 rz3 q4 f4 gx4 r4 rz4 q5 f5 gx5 r5 rz5 q6 f6 gx6 r6 rz6 q7 f7 gx7 r7 rz7 q8 f8 gx8 r8 rz8 q9 f9 gx9 r9 rz9 q10 f10 gx10 r10 rz10
      go_simp
      apply hK
      simp only [Nat.reduceEqDiff, decide_false, decide_true, Bool.or_false, Bool.or_true]
      exact ⟨_, _, _, _, _, _, _, _, _, _, _, _, _, _, v', S, N, rfl, i0, i1, i2, i3, i4, fun _ => rfl, fun _ => rfl, i7, g8, g9, g10, g11, g14, hB, hS, hV, hN⟩
    | 7, ho =>
      obtain rfl := Option.some.inj ho
      rintro X a W K hX hpre ⟨t9, t10, t29, t30, t31, t32, t33, t34, t35, t36, t37, t38, t39, t40, v', S, N, rfl, i0, i1, i2, i3, i4, i5, i6, i7, g8, g9, g10, g11, g14, hB, hS, hV, hN⟩ hK
      have hBs : W3.heap.size ≤ W.heap.size := hB.size
      have z0 : W.cell? ⟨w.heap.size + 1, 0, none⟩ = _ := (hB.cell (show w.heap.size + 1 < W3.heap.size by omega)).trans gx0
      have z1 : W.cell? ⟨w.heap.size + 1, 1, none⟩ = _ := (hB.cell (show w.heap.size + 1 < W3.heap.size by omega)).trans gx1
      have z2 : W.cell? ⟨w.heap.size + 1, 2, none⟩ = _ := (hB.cell (show w.heap.size + 1 < W3.heap.size by omega)).trans gx2
      have z3 : W.cell? ⟨w.heap.size + 1, 3, none⟩ = _ := (hB.cell (show w.heap.size + 1 < W3.heap.size by omega)).trans gx3
      have z4 : W.cell? ⟨w.heap.size + 1, 4, none⟩ = _ := (hB.cell (show w.heap.size + 1 < W3.heap.size by omega)).trans gx4
      have z5 : W.cell? ⟨w.heap.size + 1, 5, none⟩ = _ := (hB.cell (show w.heap.size + 1 < W3.heap.size by omega)).trans gx5
      have z6 : W.cell? ⟨w.heap.size + 1, 6, none⟩ = _ := (hB.cell (show w.heap.size + 1 < W3.heap.size by omega)).trans gx6
      have z7 : W.cell? ⟨w.heap.size + 1, 7, none⟩ = _ := (hB.cell (show w.heap.size + 1 < W3.heap.size by omega)).trans gx7
      have z8 : W.cell? ⟨w.heap.size + 1, 8, none⟩ = _ := (hB.cell (show w.heap.size + 1 < W3.heap.size by omega)).trans gx8
      have z9 : W.cell? ⟨w.heap.size + 1, 9, none⟩ = _ := (hB.cell (show w.heap.size + 1 < W3.heap.size by omega)).trans gx9
      have z10 : W.cell? ⟨w.heap.size + 1, 10, none⟩ = _ := (hB.cell (show w.heap.size + 1 < W3.heap.size by omega)).trans gx10
      clear ih k0 q0 f0 gx0 r0 rz0 q1 f1 gx1 r1 rz1 q2 f2 gx2 r2 rz2 q3 f3 gx3 r3 rz3 q4 f4 gx4 r4 rz4 q5 f5 gx5 r5 rz5 q6 f6 gx6 r6 rz6 q7 f7 gx7 r7 rz7 q8 f8 gx8 r8 rz8 q9 f9 gx9 r9 rz9 q10 f10 gx10 r10 rz10
      go_simp
      apply hK
      simp only [Nat.reduceEqDiff, decide_false, decide_true, Bool.or_false, Bool.or_true]
      exact ⟨_, _, _, _, _, _, _, _, _, _, _, _, _, _, v', S, N, rfl, i0, i1, i2, i3, i4, i5, i6, fun _ => rfl, g8, g9, g10, g11, g14, hB, hS, hV, hN⟩
    | 8, ho =>
      obtain rfl := Option.some.inj ho
      rintro X a W K hX hpre ⟨t9, t10, t29, t30, t31, t32, t33, t34, t35, t36, t37, t38, t39, t40, v', S, N, rfl, i0, i1, i2, i3, i4, i5, i6, i7, g8, g9, g10, g11, g14, hB, hS, hV, hN⟩ hK
      have xx9 : X 9 = false := by
        cases h : X 9 with
        | false => rfl
        | true =>
          have c0 : X 8 = true := hpre.2 9 _ h rfl ⟨8, .data⟩ (by simp) rfl
          rw [hX] at c0; cases c0
      have xx10 : X 10 = false := by
        cases h : X 10 with
        | false => rfl
        | true =>
          have c0 : X 9 = true := hpre.2 10 _ h rfl ⟨9, .data⟩ (by simp) rfl
          have c1 : X 8 = true := hpre.2 9 _ c0 rfl ⟨8, .data⟩ (by simp) rfl
          rw [hX] at c1; cases c1
      have xx11 : X 11 = false := by
        cases h : X 11 with
        | false => rfl
        | true =>
          have c0 : X 9 = true := hpre.2 11 _ h rfl ⟨9, .data⟩ (by simp) rfl
          have c1 : X 8 = true := hpre.2 9 _ c0 rfl ⟨8, .data⟩ (by simp) rfl
          rw [hX] at c1; cases c1
      have xx13 : X 13 = false := by
        cases h : X 13 with
        | false => rfl
        | true =>
          have c0 : X 8 = true := hpre.2 13 _ h rfl ⟨8, .chain⟩ (by simp) rfl
          rw [hX] at c0; cases c0
      have xx14 : X 14 = false := by
        cases h : X 14 with
        | false => rfl
        | true =>
          have c0 : X 8 = true := hpre.2 14 _ h rfl ⟨8, .phase⟩ (by simp) rfl
          rw [hX] at c0; cases c0
      have d4 := i4 (hpre.1 ⟨4, .data⟩ (by simp) rfl)
      have d6 := i6 (hpre.1 ⟨6, .data⟩ (by simp) rfl)
      have d7 := i7 (hpre.1 ⟨7, .data⟩ (by simp) rfl)
      subst d4
      subst d6
      subst d7
      have hBs : W3.heap.size ≤ W.heap.size := hB.size
      have hcall := ih W (hb3.trans (Below.mono (B := W3.heap.size) ⟨hB.os, hB.tape, hB.output, hB.size, hB.block⟩ (by omega)))
      clear ih k0 q0 f0 gx0 r0 rz0 q1 f1 gx1 r1 rz1 q2 f2 gx2 r2 rz2 q3 f3 gx3 r3 rz3 q4 f4 gx4 r4 rz4 q5 f5 gx5 r5 rz5 q6 f6 gx6 r6 rz6 q7 f7 gx7 r7 rz7 q8 f8 gx8 r8 rz8 q9 f9 gx9 r9 rz9 q10 f10 gx10 r10 rz10
      go_simp
      go_wp2_with (go_at_call 9; refine hcall.mono ?_; rintro e w' ⟨v3, S3, rfl, hv3, hb4, hr3, hS3⟩)
      simp only [Nat.reduceEqDiff, decide_false, decide_true, Bool.or_false, Bool.or_true]
      refine ⟨_, _, _, _, _, _, _, _, _, _, _, _, _, _, v3, S3, N, rfl, i0, i1, i2, i3, fun _ => rfl, i5, fun _ => rfl, fun _ => rfl, fun _ => rfl, fun h => (by rw [xx9] at h; cases h), fun h => (by rw [xx10] at h; cases h), fun h => (by rw [xx11] at h; cases h), fun h => (by rw [xx14] at h; cases h), hB.trans (hb4.mono hBs), fun b hb => ?_, fun _ => ⟨hv3, hr3⟩, fun h => ?_⟩
      · obtain ⟨a1, a2⟩ := hS3 b hb; exact ⟨a1, a2.imp_right fun h => Nat.le_trans hBs h⟩
      · obtain ⟨p1, p2, p3, p4, p5, p6⟩ := hN h
        have p2' : W3.heap.size ≤ N := p2
        refine ⟨p1, p2, Nat.lt_of_lt_of_le p3 hb4.size, fun h => ?_, fun j hj => ?_, fun h => (by rw [xx13] at h; cases h)⟩
        · rcases (hS3 N h).2 with h | h
          · have := hA N h; omega
          · omega
        · rw [hb4.cell p3, hb4.frozen p3]; exact p5 j hj
    | 9, ho =>
      obtain rfl := Option.some.inj ho
      rintro X a W K hX hpre ⟨t9, t10, t29, t30, t31, t32, t33, t34, t35, t36, t37, t38, t39, t40, v', S, N, rfl, i0, i1, i2, i3, i4, i5, i6, i7, g8, g9, g10, g11, g14, hB, hS, hV, hN⟩ hK
      have d8 := g8 (hpre.1 ⟨8, .data⟩ (by simp) rfl)
      subst d8
      clear ih k0 q0 f0 gx0 r0 rz0 q1 f1 gx1 r1 rz1 q2 f2 gx2 r2 rz2 q3 f3 gx3 r3 rz3 q4 f4 gx4 r4 rz4 q5 f5 gx5 r5 rz5 q6 f6 gx6 r6 rz6 q7 f7 gx7 r7 rz7 q8 f8 gx8 r8 rz8 q9 f9 gx9 r9 rz9 q10 f10 gx10 r10 rz10
      go_simp
      apply hK
      simp only [Nat.reduceEqDiff, decide_false, decide_true, Bool.or_false, Bool.or_true]
      exact ⟨_, _, _, _, _, _, _, _, _, _, _, _, _, _, v', S, N, rfl, i0, i1, i2, i3, i4, i5, i6, i7, fun _ => rfl, fun _ => rfl, g10, g11, g14, hB, hS, hV, hN⟩
    | 10, ho =>
      obtain rfl := Option.some.inj ho
      rintro X a W K hX hpre ⟨t9, t10, t29, t30, t31, t32, t33, t34, t35, t36, t37, t38, t39, t40, v', S, N, rfl, i0, i1, i2, i3, i4, i5, i6, i7, g8, g9, g10, g11, g14, hB, hS, hV, hN⟩ hK
      have d9 := g9 (hpre.1 ⟨9, .data⟩ (by simp) rfl)
      subst d9
      clear ih k0 q0 f0 gx0 r0 rz0 q1 f1 gx1 r1 rz1 q2 f2 gx2 r2 rz2 q3 f3 gx3 r3 rz3 q4 f4 gx4 r4 rz4 q5 f5 gx5 r5 rz5 q6 f6 gx6 r6 rz6 q7 f7 gx7 r7 rz7 q8 f8 gx8 r8 rz8 q9 f9 gx9 r9 rz9 q10 f10 gx10 r10 rz10
      go_simp
      apply hK
      simp only [Nat.reduceEqDiff, decide_false, decide_true, Bool.or_false, Bool.or_true]
      exact ⟨_, _, _, _, _, _, _, _, _, _, _, _, _, _, v', S, N, rfl, i0, i1, i2, i3, i4, i5, i6, i7, g8, fun _ => rfl, fun _ => rfl, g11, g14, hB, hS, hV, hN⟩
    | 11, ho =>
      obtain rfl := Option.some.inj ho
      rintro X a W K hX hpre ⟨t9, t10, t29, t30, t31, t32, t33, t34, t35, t36, t37, t38, t39, t40, v', S, N, rfl, i0, i1, i2, i3, i4, i5, i6, i7, g8, g9, g10, g11, g14, hB, hS, hV, hN⟩ hK
      have d9 := g9 (hpre.1 ⟨9, .data⟩ (by simp) rfl)
      subst d9
      clear ih k0 q0 f0 gx0 r0 rz0 q1 f1 gx1 r1 rz1 q2 f2 gx2 r2 rz2 q3 f3 gx3 r3 rz3 q4 f4 gx4 r4 rz4 q5 f5 gx5 r5 rz5 q6 f6 gx6 r6 rz6 q7 f7 gx7 r7 rz7 q8 f8 gx8 r8 rz8 q9 f9 gx9 r9 rz9 q10 f10 gx10 r10 rz10
      go_simp
      apply hK
      simp only [Nat.reduceEqDiff, decide_false, decide_true, Bool.or_false, Bool.or_true]
      exact ⟨_, _, _, _, _, _, _, _, _, _, _, _, _, _, v', S, N, rfl, i0, i1, i2, i3, i4, i5, i6, i7, g8, fun _ => rfl, g10, fun _ => rfl, g14, hB, hS, hV, hN⟩
    | 12, ho =>
      obtain rfl := Option.some.inj ho
      rintro X a W K hX hpre ⟨t9, t10, t29, t30, t31, t32, t33, t34, t35, t36, t37, t38, t39, t40, v', S, N, rfl, i0, i1, i2, i3, i4, i5, i6, i7, g8, g9, g10, g11, g14, hB, hS, hV, hN⟩ hK
      have xx13 : X 13 = false := by
        cases h : X 13 with
        | false => rfl
        | true =>
          have c0 : X 12 = true := hpre.2 13 _ h rfl ⟨12, .data⟩ (by simp) rfl
          rw [hX] at c0; cases c0
      have hBs : W3.heap.size ≤ W.heap.size := hB.size
      clear ih k0 q0 f0 gx0 r0 rz0 q1 f1 gx1 r1 rz1 q2 f2 gx2 r2 rz2 q3 f3 gx3 r3 rz3 q4 f4 gx4 r4 rz4 q5 f5 gx5 r5 rz5 q6 f6 gx6 r6 rz6 q7 f7 gx7 r7 rz7 q8 f8 gx8 r8 rz8 q9 f9 gx9 r9 rz9 q10 f10 gx10 r10 rz10
      go_simp
      apply hK
      simp only [Nat.reduceEqDiff, decide_false, decide_true, Bool.or_false, Bool.or_true]
      refine ⟨_, _, _, _, _, _, _, _, _, _, _, _, _, _, v', S, W.heap.size, rfl, i0, i1, i2, i3, i4, i5, i6, i7, g8, g9, g10, g11, g14, hB.alloc hBs _, fun b hb => ?_, fun h => ⟨(hV h).1, (hV h).2.ext (by simp) fun b hb ht => ⟨ht, Below.heap_alloc _ _ _ hb⟩⟩, fun _ => ⟨rfl, hBs, by simp, fun h => absurd (hS _ h).1 (Nat.lt_irrefl _), fun j hj => ?_, fun h => (by rw [xx13] at h; cases h)⟩⟩
      · obtain ⟨a1, a2⟩ := hS b hb; exact ⟨by simp; omega, a2⟩
      · match j, hj with
        | 0, _ => exact ⟨⟨_, by go_simp; try rfl⟩, by go_simp⟩
        | 1, _ => exact ⟨⟨_, by go_simp; try rfl⟩, by go_simp⟩
        | 2, _ => exact ⟨⟨_, by go_simp; try rfl⟩, by go_simp⟩
        | 3, _ => exact ⟨⟨_, by go_simp; try rfl⟩, by go_simp⟩
        | 4, _ => exact ⟨⟨_, by go_simp; try rfl⟩, by go_simp⟩
        | 5, _ => exact ⟨⟨_, by go_simp; try rfl⟩, by go_simp⟩
        | 6, _ => exact ⟨⟨_, by go_simp; try rfl⟩, by go_simp⟩
        | 7, _ => exact ⟨⟨_, by go_simp; try rfl⟩, by go_simp⟩
        | 8, _ => exact ⟨⟨_, by go_simp; try rfl⟩, by go_simp⟩
        | 9, _ => exact ⟨⟨_, by go_simp; try rfl⟩, by go_simp⟩
        | 10, _ => exact ⟨⟨_, by go_simp; try rfl⟩, by go_simp⟩
    | 13, ho =>
      obtain rfl := Option.some.inj ho
      rintro X a W K hX hpre ⟨t9, t10, t29, t30, t31, t32, t33, t34, t35, t36, t37, t38, t39, t40, v', S, N, rfl, i0, i1, i2, i3, i4, i5, i6, i7, g8, g9, g10, g11, g14, hB, hS, hV, hN⟩ hK
      have d8 : X 8 = true := hpre.1 ⟨8, .chain⟩ (by simp) rfl
      have d12 : X 12 = true := hpre.1 ⟨12, .data⟩ (by simp) rfl
      have d10 := g10 (hpre.1 ⟨10, .data⟩ (by simp) rfl)
      obtain ⟨rfl, p2, p3, p4, p5, p6⟩ := hN d12
      obtain ⟨hv, hr⟩ := hV d8
      have hv' := hv
      subst d10
      obtain ⟨op3, name3, n3, m3, o3, l3, c3, fk3, fa3, fb3, fc3, fd3, o3', l3', c3', rfl⟩ := hv
      unfold blkV at *
      obtain ⟨⟨u0, z0⟩, y0⟩ := p5 0 (by decide)
      obtain ⟨⟨u1, z1⟩, y1⟩ := p5 1 (by decide)
      obtain ⟨⟨u2, z2⟩, y2⟩ := p5 2 (by decide)
      obtain ⟨⟨u3, z3⟩, y3⟩ := p5 3 (by decide)
      obtain ⟨⟨u4, z4⟩, y4⟩ := p5 4 (by decide)
      obtain ⟨⟨u5, z5⟩, y5⟩ := p5 5 (by decide)
      obtain ⟨⟨u6, z6⟩, y6⟩ := p5 6 (by decide)
      obtain ⟨⟨u7, z7⟩, y7⟩ := p5 7 (by decide)
      obtain ⟨⟨u8, z8⟩, y8⟩ := p5 8 (by decide)
      obtain ⟨⟨u9, z9⟩, y9⟩ := p5 9 (by decide)
      obtain ⟨⟨u10, z10⟩, y10⟩ := p5 10 (by decide)
      clear p5 p6
      clear ih k0 q0 f0 gx0 r0 rz0 q1 f1 gx1 r1 rz1 q2 f2 gx2 r2 rz2 q3 f3 gx3 r3 rz3 q4 f4 gx4 r4 rz4 q5 f5 gx5 r5 rz5 q6 f6 gx6 r6 rz6 q7 f7 gx7 r7 rz7 q8 f8 gx8 r8 rz8 q9 f9 gx9 r9 rz9 q10 f10 gx10 r10 rz10
      go_simp
      apply hK
      simp only [Nat.reduceEqDiff, decide_false, decide_true, Bool.or_false, Bool.or_true]
      have ht := (((((((((((Tch.refl N W).set 0 (.string op3)).set 1 (.string name3)).set 2 (.int .i64 n3)).set 3 (.int .i64 m3)).set 4 (.slice o3 l3 c3)).set 5 (.string fk3)).set 6 (.int .i64 fa3)).set 7 (.int .i64 fb3)).set 8 (.string fc3)).set 9 (.string fd3)).set 10 (.slice o3' l3' c3')
      have p2' : W3.heap.size ≤ N := p2
      refine ⟨_, _, _, _, _, _, _, _, _, _, _, _, _, _, _, S, N, rfl, i0, i1, i2, i3, i4, i5, i6, i7, fun _ => rfl, g9, fun _ => rfl, g11, g14, ⟨ht.os.trans hB.os, ht.tape.trans hB.tape, ht.output.trans hB.output, by rw [ht.size]; exact hB.size, fun b hb => (ht.block b (by have hb' : b < W3.heap.size := hb; omega)).trans (hB.block b hb)⟩, fun b hb => ?_, fun _ => ⟨hv', hr.ext (Nat.le_of_eq ht.size.symm) fun b hb hbt => ⟨hbt, ht.block b fun e => p4 (e ▸ gS_free.1 hbt)⟩⟩, fun _ => ⟨rfl, p2, by rw [ht.size]; exact p3, p4, fun j hj => ?_, fun _ j hj => ?_⟩⟩
      · obtain ⟨a1, a2⟩ := hS b hb; exact ⟨by rw [ht.size]; exact a1, a2⟩
      · match j, hj with
        | 0, _ => exact ⟨⟨_, by go_simp; try rfl⟩, by go_simp⟩
        | 1, _ => exact ⟨⟨_, by go_simp; try rfl⟩, by go_simp⟩
        | 2, _ => exact ⟨⟨_, by go_simp; try rfl⟩, by go_simp⟩
        | 3, _ => exact ⟨⟨_, by go_simp; try rfl⟩, by go_simp⟩
        | 4, _ => exact ⟨⟨_, by go_simp; try rfl⟩, by go_simp⟩
        | 5, _ => exact ⟨⟨_, by go_simp; try rfl⟩, by go_simp⟩
        | 6, _ => exact ⟨⟨_, by go_simp; try rfl⟩, by go_simp⟩
        | 7, _ => exact ⟨⟨_, by go_simp; try rfl⟩, by go_simp⟩
        | 8, _ => exact ⟨⟨_, by go_simp; try rfl⟩, by go_simp⟩
        | 9, _ => exact ⟨⟨_, by go_simp; try rfl⟩, by go_simp⟩
        | 10, _ => exact ⟨⟨_, by go_simp; try rfl⟩, by go_simp⟩
      · match j, hj with
        | 0, _ => go_simp; try rfl
        | 1, _ => go_simp; try rfl
        | 2, _ => go_simp; try rfl
        | 3, _ => go_simp; try rfl
        | 4, _ => go_simp; try rfl
        | 5, _ => go_simp; try rfl
        | 6, _ => go_simp; try rfl
        | 7, _ => go_simp; try rfl
        | 8, _ => go_simp; try rfl
        | 9, _ => go_simp; try rfl
        | 10, _ => go_simp; try rfl
    | 14, ho =>
      obtain rfl := Option.some.inj ho
      rintro X a W K hX hpre ⟨t9, t10, t29, t30, t31, t32, t33, t34, t35, t36, t37, t38, t39, t40, v', S, N, rfl, i0, i1, i2, i3, i4, i5, i6, i7, g8, g9, g10, g11, g14, hB, hS, hV, hN⟩ hK
      have d11 := g11 (hpre.1 ⟨11, .data⟩ (by simp) rfl)
      subst d11
      clear ih k0 q0 f0 gx0 r0 rz0 q1 f1 gx1 r1 rz1 q2 f2 gx2 r2 rz2 q3 f3 gx3 r3 rz3 q4 f4 gx4 r4 rz4 q5 f5 gx5 r5 rz5 q6 f6 gx6 r6 rz6 q7 f7 gx7 r7 rz7 q8 f8 gx8 r8 rz8 q9 f9 gx9 r9 rz9 q10 f10 gx10 r10 rz10
      go_simp
      apply hK
      simp only [Nat.reduceEqDiff, decide_false, decide_true, Bool.or_false, Bool.or_true]
      exact ⟨_, _, _, _, _, _, _, _, _, _, _, _, _, _, v', S, N, rfl, i0, i1, i2, i3, i4, i5, i6, i7, g8, g9, g10, fun _ => rfl, fun _ => rfl, hB, hS, hV, hN⟩
    | i + 15, ho => simp at ho
  · intro X a V hX
    rintro ⟨t9, t10, t29, t30, t31, t32, t33, t34, t35, t36, t37, t38, t39, t40, v', S, N, rfl, i0, i1, i2, i3, i4, i5, i6, i7, g8, g9, g10, g11, g14, hB, hS, hV, hN⟩
    have hall : ∀ k, k < 15 → X k = true := hX
    have k0 := i0 (hall 0 (by decide))
    have k1 := i1 (hall 1 (by decide))
    have k2 := i2 (hall 2 (by decide))
    have k3 := i3 (hall 3 (by decide))
    have k4 := i4 (hall 4 (by decide))
    have k5 := i5 (hall 5 (by decide))
    have k6 := i6 (hall 6 (by decide))
    have k7 := i7 (hall 7 (by decide))
    have k8 := g8 (hall 8 (by decide))
    have k9 := g9 (hall 9 (by decide))
    have k10 := g10 (hall 10 (by decide))
    have k11 := g11 (hall 11 (by decide))
    have k14 := g14 (hall 14 (by decide))
    obtain ⟨hv, hr⟩ := hV (hall 8 (by decide))
    obtain ⟨kN, p2, p3, p4, p5, p6⟩ := hN (hall 12 (by decide))
    have p6 := p6 (hall 13 (by decide))
    have hBs : W3.heap.size ≤ V.heap.size := hB.size
    have p2' : W3.heap.size ≤ N := p2
    have hbV : Below w.heap.size w V := hb3.trans (Below.mono (B := W3.heap.size) ⟨hB.os, hB.tape, hB.output, hB.size, hB.block⟩ (by omega))
    have hv' := hv
    subst k0 k1 k2 k3 k4 k5 k6 k7 k8 k9 k10 k11 k14 kN
    obtain ⟨op3, name3, n3, m3, o3, l3, c3, fk3, fa3, fb3, fc3, fd3, o3', l3', c3', rfl⟩ := hv
    unfold blkV at *
    have vr0 : V.cell? ⟨w.heap.size + 1 + 1, 0, none⟩ = _ := (hB.cell (show w.heap.size + 1 + 1 < W3.heap.size by omega)).trans r0
    have vz0 : V.frozen? ⟨w.heap.size + 1 + 1, 0, none⟩ = false := (hB.frozen (show w.heap.size + 1 + 1 < W3.heap.size by omega)).trans rz0
    have va0 : V.cell? ⟨w.heap.size, 0, none⟩ = _ := (hB.cell (show w.heap.size < W3.heap.size by omega)).trans f0
    have vn0 : V.cell? ⟨N, 0, none⟩ = some (.string op3) := p6 0 (by decide)
    have vr1 : V.cell? ⟨w.heap.size + 1 + 1, 1, none⟩ = _ := (hB.cell (show w.heap.size + 1 + 1 < W3.heap.size by omega)).trans r1
    have vz1 : V.frozen? ⟨w.heap.size + 1 + 1, 1, none⟩ = false := (hB.frozen (show w.heap.size + 1 + 1 < W3.heap.size by omega)).trans rz1
    have va1 : V.cell? ⟨w.heap.size, 1, none⟩ = _ := (hB.cell (show w.heap.size < W3.heap.size by omega)).trans f1
    have vn1 : V.cell? ⟨N, 1, none⟩ = some (.string name3) := p6 1 (by decide)
    have vr2 : V.cell? ⟨w.heap.size + 1 + 1, 2, none⟩ = _ := (hB.cell (show w.heap.size + 1 + 1 < W3.heap.size by omega)).trans r2
    have vz2 : V.frozen? ⟨w.heap.size + 1 + 1, 2, none⟩ = false := (hB.frozen (show w.heap.size + 1 + 1 < W3.heap.size by omega)).trans rz2
    have va2 : V.cell? ⟨w.heap.size, 2, none⟩ = _ := (hB.cell (show w.heap.size < W3.heap.size by omega)).trans f2
    have vn2 : V.cell? ⟨N, 2, none⟩ = some (.int .i64 n3) := p6 2 (by decide)
    have vr3 : V.cell? ⟨w.heap.size + 1 + 1, 3, none⟩ = _ := (hB.cell (show w.heap.size + 1 + 1 < W3.heap.size by omega)).trans r3
    have vz3 : V.frozen? ⟨w.heap.size + 1 + 1, 3, none⟩ = false := (hB.frozen (show w.heap.size + 1 + 1 < W3.heap.size by omega)).trans rz3
    have va3 : V.cell? ⟨w.heap.size, 3, none⟩ = _ := (hB.cell (show w.heap.size < W3.heap.size by omega)).trans f3
    have vn3 : V.cell? ⟨N, 3, none⟩ = some (.int .i64 m3) := p6 3 (by decide)
    have vr4 : V.cell? ⟨w.heap.size + 1 + 1, 4, none⟩ = _ := (hB.cell (show w.heap.size + 1 + 1 < W3.heap.size by omega)).trans r4
    have vz4 : V.frozen? ⟨w.heap.size + 1 + 1, 4, none⟩ = false := (hB.frozen (show w.heap.size + 1 + 1 < W3.heap.size by omega)).trans rz4
    have va4 : V.cell? ⟨w.heap.size, 4, none⟩ = _ := (hB.cell (show w.heap.size < W3.heap.size by omega)).trans f4
    have vn4 : V.cell? ⟨N, 4, none⟩ = some (.slice o3 l3 c3) := p6 4 (by decide)
    have vr5 : V.cell? ⟨w.heap.size + 1 + 1, 5, none⟩ = _ := (hB.cell (show w.heap.size + 1 + 1 < W3.heap.size by omega)).trans r5
    have vz5 : V.frozen? ⟨w.heap.size + 1 + 1, 5, none⟩ = false := (hB.frozen (show w.heap.size + 1 + 1 < W3.heap.size by omega)).trans rz5
    have va5 : V.cell? ⟨w.heap.size, 5, none⟩ = _ := (hB.cell (show w.heap.size < W3.heap.size by omega)).trans f5
    have vn5 : V.cell? ⟨N, 5, none⟩ = some (.string fk3) := p6 5 (by decide)
    have vr6 : V.cell? ⟨w.heap.size + 1 + 1, 6, none⟩ = _ := (hB.cell (show w.heap.size + 1 + 1 < W3.heap.size by omega)).trans r6
    have vz6 : V.frozen? ⟨w.heap.size + 1 + 1, 6, none⟩ = false := (hB.frozen (show w.heap.size + 1 + 1 < W3.heap.size by omega)).trans rz6
    have va6 : V.cell? ⟨w.heap.size, 6, none⟩ = _ := (hB.cell (show w.heap.size < W3.heap.size by omega)).trans f6
    have vn6 : V.cell? ⟨N, 6, none⟩ = some (.int .i64 fa3) := p6 6 (by decide)
    have vr7 : V.cell? ⟨w.heap.size + 1 + 1, 7, none⟩ = _ := (hB.cell (show w.heap.size + 1 + 1 < W3.heap.size by omega)).trans r7
    have vz7 : V.frozen? ⟨w.heap.size + 1 + 1, 7, none⟩ = false := (hB.frozen (show w.heap.size + 1 + 1 < W3.heap.size by omega)).trans rz7
    have va7 : V.cell? ⟨w.heap.size, 7, none⟩ = _ := (hB.cell (show w.heap.size < W3.heap.size by omega)).trans f7
    have vn7 : V.cell? ⟨N, 7, none⟩ = some (.int .i64 fb3) := p6 7 (by decide)
    have vr8 : V.cell? ⟨w.heap.size + 1 + 1, 8, none⟩ = _ := (hB.cell (show w.heap.size + 1 + 1 < W3.heap.size by omega)).trans r8
    have vz8 : V.frozen? ⟨w.heap.size + 1 + 1, 8, none⟩ = false := (hB.frozen (show w.heap.size + 1 + 1 < W3.heap.size by omega)).trans rz8
    have va8 : V.cell? ⟨w.heap.size, 8, none⟩ = _ := (hB.cell (show w.heap.size < W3.heap.size by omega)).trans f8
    have vn8 : V.cell? ⟨N, 8, none⟩ = some (.string fc3) := p6 8 (by decide)
    have vr9 : V.cell? ⟨w.heap.size + 1 + 1, 9, none⟩ = _ := (hB.cell (show w.heap.size + 1 + 1 < W3.heap.size by omega)).trans r9
    have vz9 : V.frozen? ⟨w.heap.size + 1 + 1, 9, none⟩ = false := (hB.frozen (show w.heap.size + 1 + 1 < W3.heap.size by omega)).trans rz9
    have va9 : V.cell? ⟨w.heap.size, 9, none⟩ = _ := (hB.cell (show w.heap.size < W3.heap.size by omega)).trans f9
    have vn9 : V.cell? ⟨N, 9, none⟩ = some (.string fd3) := p6 9 (by decide)
    have vr10 : V.cell? ⟨w.heap.size + 1 + 1, 10, none⟩ = _ := (hB.cell (show w.heap.size + 1 + 1 < W3.heap.size by omega)).trans r10
    have vz10 : V.frozen? ⟨w.heap.size + 1 + 1, 10, none⟩ = false := (hB.frozen (show w.heap.size + 1 + 1 < W3.heap.size by omega)).trans rz10
    have va10 : V.cell? ⟨w.heap.size, 10, none⟩ = _ := (hB.cell (show w.heap.size < W3.heap.size by omega)).trans f10
    have vn10 : V.cell? ⟨N, 10, none⟩ = some (.slice o3' l3' c3') := p6 10 (by decide)
    clear i0 i1 i2 i3 i4 i5 i6 i7 g8 g9 g10 g11 g14 hV hN hall hX p5 p6 hB ih k0 q0 f0 gx0 r0 rz0 q1 f1 gx1 r1 rz1 q2 f2 gx2 r2 rz2 q3 f3 gx3 r3 rz3 q4 f4 gx4 r4 rz4 q5 f5 gx5 r5 rz5 q6 f6 gx6 r6 rz6 q7 f7 gx7 r7 rz7 q8 f8 gx8 r8 rz8 q9 f9 gx9 r9 rz9 q10 f10 gx10 r10 rz10
    clear hr hv' hS p4 p3 p2 p2' va0 vn0 va1 vn1 va2 vn2 va3 vn3 va4 vn4 va5 vn5 va6 vn6 va7 vn7 va8 vn8 va9 vn9 va10 vn10
    go_wp2_with (with_reducible show bodyPost _ _ _ _ _ _; refine bodyPost_ret (by simp [results, Try.results9, go_sem, vr0, vr1, vr2, vr3, vr4, vr5, vr6, vr7, vr8, vr9, vr10]; try rfl) rfl ?_; exact ⟨rfl, below_tch hbV ((((((((((((Tch.refl (w.heap.size + 1 + 1) V).set 0 (.string ⟨#[]⟩)).set 1 (.string ⟨#[]⟩)).set 2 (.int .i64 0)).set 3 (.int .i64 0)).set 4 (.slice none 0 0)).set 5 (.string ⟨#[]⟩)).set 6 (.int .i64 0)).set 7 (.int .i64 0)).set 8 (.string ⟨#[]⟩)).set 9 (.string ⟨#[]⟩)).set 10 (.slice none 0 0)) (by omega)⟩)

theorem ref_ok (w : World) (op name : ByteArray) (n m : Int) (o : Option Addr) (l c : Nat) (fk : ByteArray) (fa fb : Int) (fc fd : ByteArray) (bk off c' : Nat) (kids : List PV)
    (op1 name1 : ByteArray) (n1 m1 : Int) (o1 : Option Addr) (l1 c1 : Nat) (fk1 : ByteArray) (fa1 fb1 : Int) (fc1 fd1 : ByteArray) (o1' : Option Addr) (l1' c1' : Nat)
    (op2 name2 : ByteArray) (n2 m2 : Int) (o2 : Option Addr) (l2 c2 : Nat) (fk2 : ByteArray) (fa2 fb2 : Int) (fc2 fd2 : ByteArray) (o2' : Option Addr) (l2' c2' : Nat)
    (pb po pl pc : Nat) (k : Nat) (hp : w.cell? ⟨pb, po, none⟩ = some (.int .i64 k)) (hk : k < kids.length) (hpc : pl + 1 ≤ pc) (po1 : Nat) (hpo : (pc = 1 ∧ po1 = po) ∨ (1 < pc ∧ po1 = po + 1))
    (k0 : ∀ j, j < 11 → w.cell? ⟨bk, off + k * 11 + j, none⟩ = (.agg #[.string op2, .string name2, .int .i64 n2, .int .i64 m2, .slice o2 l2 c2, .string fk2, .int .i64 fa2, .int .i64 fb2, .string fc2, .string fd2, .slice o2' l2' c2'] : Value).cells[j]?) (A : Nat → Prop) (hA : ∀ b, A b → b < w.heap.size) (y : PV)
    (ih : ∀ W, Below w.heap.size w W → Calls Try.prog 9 #[.agg #[.string op2, .string name2, .int .i64 n2, .int .i64 m2, .slice o2 l2 c2, .string fk2, .int .i64 fa2, .int .i64 fb2, .string fc2, .string fd2, .slice o2' l2' c2'], .slice (some ⟨pb, po1, none⟩) pl (pc - 1), .agg #[.string op1, .string name1, .int .i64 n1, .int .i64 m1, .slice o1 l1 c1, .string fk1, .int .i64 fa1, .int .i64 fb1, .string fc1, .string fd1, .slice o1' l1' c1']] W fun e w' =>
      ∃ v' S, e = .returned (.tuple #[v', .int .i64 0]) ∧ IsV v' ∧ Below W.heap.size W w' ∧ PRep Try.prog w' (gS S) (.st 27) y v' ∧ ∀ b, S b → b < w'.heap.size ∧ (A b ∨ W.heap.size ≤ b))
    (nums : List PV) (hn : PRep Try.prog w (gS A) (.sl 38) (.sl nums) (.slice o l c)) (hks : PRep Try.prog w (gS A) (.sl 27) (.sl kids) (.slice (some ⟨bk, off, none⟩) kids.length c')) (hlk2 : kids.length * 160 ≤ room) :
    Calls Try.prog 9 #[.agg #[.string op, .string name, .int .i64 n, .int .i64 m, .slice o l c, .string fk, .int .i64 fa, .int .i64 fb, .string fc, .string fd, .slice (some ⟨bk, off, none⟩) kids.length c'], .slice (some ⟨pb, po, none⟩) (pl + 1) pc, .agg #[.string op1, .string name1, .int .i64 n1, .int .i64 m1, .slice o1 l1 c1, .string fk1, .int .i64 fa1, .int .i64 fb1, .string fc1, .string fd1, .slice o1' l1' c1']] w fun e w' => ∃ v3 S', e = .returned (.tuple #[v3, .int .i64 0]) ∧ IsV v3 ∧ Below w.heap.size w w' ∧ PRep Try.prog w' (gS S') (.st 27) (blkP op name n m nums fk fa fb fc fd (kids.set k y)) v3 ∧ ∀ b, S' b → b < w'.heap.size ∧ (A b ∨ w.heap.size ≤ b) := by
  have hlp : pb < w.heap.size := World.block_lt_of_cell? _ _ hp
  have hlk : bk < w.heap.size := World.block_lt_of_cell? _ _ (k0 0 (by decide))
  have hlp1 : pb < w.heap.size + 1 := by omega
  have hlp2 : pb < w.heap.size + 1 + 1 := by omega
  have hpl : ¬ ((pl : Int) + 1 = 0) := by omega
  have h0 : ¬ ((k : Int) < 0) := by omega
  have h1 : ¬ ((kids.length : Int) ≤ (k : Int)) := by omega
  have hk' : (k : Int) < (kids.length : Int) := by omega
  go_enter Try.func9, Try.ntmps9
  go_wp2_with fail
  obtain ⟨W3, hW3⟩ : ∃ W3, W3 = ((w.alloc (.cells #[.string op, .string name, .int .i64 n, .int .i64 m, .slice o l c, .string fk, .int .i64 fa, .int .i64 fb, .string fc, .string fd, .slice (some ⟨bk, off, none⟩) kids.length c'] 27)).alloc (.cells #[.string op1, .string name1, .int .i64 n1, .int .i64 m1, .slice o1 l1 c1, .string fk1, .int .i64 fa1, .int .i64 fb1, .string fc1, .string fd1, .slice o1' l1' c1'] 27)).alloc (.cells #[.string ⟨#[]⟩, .string ⟨#[]⟩, .int .i64 0, .int .i64 0, .slice none 0 0, .string ⟨#[]⟩, .int .i64 0, .int .i64 0, .string ⟨#[]⟩, .string ⟨#[]⟩, .slice none 0 0] 27) := ⟨_, rfl⟩
  have hb3 : Below w.heap.size w W3 := by rw [hW3]; exact (((Below.refl w.heap.size w).alloc (Nat.le_refl _) _).alloc (by simp) _).alloc (by simp; omega) _
  have hs3 : W3.heap.size = w.heap.size + 3 := by rw [hW3]; simp
  have q0 : W3.cell? ⟨bk, off + k * 11, none⟩ = some (.string op2) := by rw [World.cell?_of_block (w := w) (hb3.block bk hlk)]; exact k0 0 (by decide)
  have f0 : W3.cell? ⟨w.heap.size, 0, none⟩ = some (.string op) := by rw [hW3]; go_simp
  have gx0 : W3.cell? ⟨w.heap.size + 1, 0, none⟩ = some (.string op1) := by rw [hW3]; go_simp
  have r0 : W3.cell? ⟨w.heap.size + 1 + 1, 0, none⟩ = some (.string ⟨#[]⟩) := by rw [hW3]; go_simp
  have rz0 : W3.frozen? ⟨w.heap.size + 1 + 1, 0, none⟩ = false := by rw [hW3]; go_simp
  have q1 : W3.cell? ⟨bk, off + k * 11 + 1, none⟩ = some (.string name2) := by rw [World.cell?_of_block (w := w) (hb3.block bk hlk)]; exact k0 1 (by decide)
  have f1 : W3.cell? ⟨w.heap.size, 1, none⟩ = some (.string name) := by rw [hW3]; go_simp
  have gx1 : W3.cell? ⟨w.heap.size + 1, 1, none⟩ = some (.string name1) := by rw [hW3]; go_simp
  have r1 : W3.cell? ⟨w.heap.size + 1 + 1, 1, none⟩ = some (.string ⟨#[]⟩) := by rw [hW3]; go_simp
  have rz1 : W3.frozen? ⟨w.heap.size + 1 + 1, 1, none⟩ = false := by rw [hW3]; go_simp
  have q2 : W3.cell? ⟨bk, off + k * 11 + 2, none⟩ = some (.int .i64 n2) := by rw [World.cell?_of_block (w := w) (hb3.block bk hlk)]; exact k0 2 (by decide)
  have f2 : W3.cell? ⟨w.heap.size, 2, none⟩ = some (.int .i64 n) := by rw [hW3]; go_simp
  have gx2 : W3.cell? ⟨w.heap.size + 1, 2, none⟩ = some (.int .i64 n1) := by rw [hW3]; go_simp
  have r2 : W3.cell? ⟨w.heap.size + 1 + 1, 2, none⟩ = some (.int .i64 0) := by rw [hW3]; go_simp
  have rz2 : W3.frozen? ⟨w.heap.size + 1 + 1, 2, none⟩ = false := by rw [hW3]; go_simp
  have q3 : W3.cell? ⟨bk, off + k * 11 + 3, none⟩ = some (.int .i64 m2) := by rw [World.cell?_of_block (w := w) (hb3.block bk hlk)]; exact k0 3 (by decide)
  have f3 : W3.cell? ⟨w.heap.size, 3, none⟩ = some (.int .i64 m) := by rw [hW3]; go_simp
  have gx3 : W3.cell? ⟨w.heap.size + 1, 3, none⟩ = some (.int .i64 m1) := by rw [hW3]; go_simp
  have r3 : W3.cell? ⟨w.heap.size + 1 + 1, 3, none⟩ = some (.int .i64 0) := by rw [hW3]; go_simp
  have rz3 : W3.frozen? ⟨w.heap.size + 1 + 1, 3, none⟩ = false := by rw [hW3]; go_simp
  have q4 : W3.cell? ⟨bk, off + k * 11 + 4, none⟩ = some (.slice o2 l2 c2) := by rw [World.cell?_of_block (w := w) (hb3.block bk hlk)]; exact k0 4 (by decide)
  have f4 : W3.cell? ⟨w.heap.size, 4, none⟩ = some (.slice o l c) := by rw [hW3]; go_simp
  have gx4 : W3.cell? ⟨w.heap.size + 1, 4, none⟩ = some (.slice o1 l1 c1) := by rw [hW3]; go_simp
  have r4 : W3.cell? ⟨w.heap.size + 1 + 1, 4, none⟩ = some (.slice none 0 0) := by rw [hW3]; go_simp
  have rz4 : W3.frozen? ⟨w.heap.size + 1 + 1, 4, none⟩ = false := by rw [hW3]; go_simp
  have q5 : W3.cell? ⟨bk, off + k * 11 + 5, none⟩ = some (.string fk2) := by rw [World.cell?_of_block (w := w) (hb3.block bk hlk)]; exact k0 5 (by decide)
  have f5 : W3.cell? ⟨w.heap.size, 5, none⟩ = some (.string fk) := by rw [hW3]; go_simp
  have gx5 : W3.cell? ⟨w.heap.size + 1, 5, none⟩ = some (.string fk1) := by rw [hW3]; go_simp
  have r5 : W3.cell? ⟨w.heap.size + 1 + 1, 5, none⟩ = some (.string ⟨#[]⟩) := by rw [hW3]; go_simp
  have rz5 : W3.frozen? ⟨w.heap.size + 1 + 1, 5, none⟩ = false := by rw [hW3]; go_simp
  have q6 : W3.cell? ⟨bk, off + k * 11 + 6, none⟩ = some (.int .i64 fa2) := by rw [World.cell?_of_block (w := w) (hb3.block bk hlk)]; exact k0 6 (by decide)
  have f6 : W3.cell? ⟨w.heap.size, 6, none⟩ = some (.int .i64 fa) := by rw [hW3]; go_simp
  have gx6 : W3.cell? ⟨w.heap.size + 1, 6, none⟩ = some (.int .i64 fa1) := by rw [hW3]; go_simp
  have r6 : W3.cell? ⟨w.heap.size + 1 + 1, 6, none⟩ = some (.int .i64 0) := by rw [hW3]; go_simp
  have rz6 : W3.frozen? ⟨w.heap.size + 1 + 1, 6, none⟩ = false := by rw [hW3]; go_simp
  have q7 : W3.cell? ⟨bk, off + k * 11 + 7, none⟩ = some (.int .i64 fb2) := by rw [World.cell?_of_block (w := w) (hb3.block bk hlk)]; exact k0 7 (by decide)
  have f7 : W3.cell? ⟨w.heap.size, 7, none⟩ = some (.int .i64 fb) := by rw [hW3]; go_simp
  have gx7 : W3.cell? ⟨w.heap.size + 1, 7, none⟩ = some (.int .i64 fb1) := by rw [hW3]; go_simp
  have r7 : W3.cell? ⟨w.heap.size + 1 + 1, 7, none⟩ = some (.int .i64 0) := by rw [hW3]; go_simp
  have rz7 : W3.frozen? ⟨w.heap.size + 1 + 1, 7, none⟩ = false := by rw [hW3]; go_simp
  have q8 : W3.cell? ⟨bk, off + k * 11 + 8, none⟩ = some (.string fc2) := by rw [World.cell?_of_block (w := w) (hb3.block bk hlk)]; exact k0 8 (by decide)
  have f8 : W3.cell? ⟨w.heap.size, 8, none⟩ = some (.string fc) := by rw [hW3]; go_simp
  have gx8 : W3.cell? ⟨w.heap.size + 1, 8, none⟩ = some (.string fc1) := by rw [hW3]; go_simp
  have r8 : W3.cell? ⟨w.heap.size + 1 + 1, 8, none⟩ = some (.string ⟨#[]⟩) := by rw [hW3]; go_simp
  have rz8 : W3.frozen? ⟨w.heap.size + 1 + 1, 8, none⟩ = false := by rw [hW3]; go_simp
  have q9 : W3.cell? ⟨bk, off + k * 11 + 9, none⟩ = some (.string fd2) := by rw [World.cell?_of_block (w := w) (hb3.block bk hlk)]; exact k0 9 (by decide)
  have f9 : W3.cell? ⟨w.heap.size, 9, none⟩ = some (.string fd) := by rw [hW3]; go_simp
  have gx9 : W3.cell? ⟨w.heap.size + 1, 9, none⟩ = some (.string fd1) := by rw [hW3]; go_simp
  have r9 : W3.cell? ⟨w.heap.size + 1 + 1, 9, none⟩ = some (.string ⟨#[]⟩) := by rw [hW3]; go_simp
  have rz9 : W3.frozen? ⟨w.heap.size + 1 + 1, 9, none⟩ = false := by rw [hW3]; go_simp
  have q10 : W3.cell? ⟨bk, off + k * 11 + 10, none⟩ = some (.slice o2' l2' c2') := by rw [World.cell?_of_block (w := w) (hb3.block bk hlk)]; exact k0 10 (by decide)
  have f10 : W3.cell? ⟨w.heap.size, 10, none⟩ = some (.slice (some ⟨bk, off, none⟩) kids.length c') := by rw [hW3]; go_simp
  have gx10 : W3.cell? ⟨w.heap.size + 1, 10, none⟩ = some (.slice o1' l1' c1') := by rw [hW3]; go_simp
  have r10 : W3.cell? ⟨w.heap.size + 1 + 1, 10, none⟩ = some (.slice none 0 0) := by rw [hW3]; go_simp
  have rz10 : W3.frozen? ⟨w.heap.size + 1 + 1, 10, none⟩ = false := by rw [hW3]; go_simp
  rw [← hW3]
  clear hW3
  refine region_inv (fun X a w' => I6 w.heap.size (fun t9 t10 t29 t30 t31 t32 t33 t34 t35 t36 t37 t38 t39 t40 => ⟨#[.agg #[.string op, .string name, .int .i64 n, .int .i64 m, .slice o l c, .string fk, .int .i64 fa, .int .i64 fb, .string fc, .string fd, .slice (some ⟨bk, off, none⟩) kids.length c'], .slice (some ⟨pb, po, none⟩) (pl + 1) pc, .agg #[.string op1, .string name1, .int .i64 n1, .int .i64 m1, .slice o1 l1 c1, .string fk1, .int .i64 fa1, .int .i64 fb1, .string fc1, .string fd1, .slice o1' l1' c1'], .pointer (some ⟨w.heap.size, 0, none⟩), undef, .pointer (some ⟨w.heap.size + 1, 0, none⟩), .pointer (some ⟨w.heap.size + 1 + 1, 0, none⟩), .int .i64 0, .int .i64 (k : Int), t9, t10, undef, .slice (some ⟨pb, po, none⟩) (pl + 1) pc, .int .i64 ((pl : Int) + 1), .bool false, undef, .slice (some ⟨pb, po, none⟩) (pl + 1) pc, .pointer (some ⟨pb, po, none⟩), .int .i64 (k : Int), .int .i64 (k : Int), .bool false, .bool false, .int .i64 (k : Int), .pointer (some ⟨w.heap.size, 10, none⟩), .slice (some ⟨bk, off, none⟩) kids.length c', .int .i64 (kids.length : Int), .bool false, .bool false, undef, t29, t30, t31, t32, t33, t34, t35, t36, t37, t38, t39, t40, undef, undef, undef, undef, undef, undef, undef, undef, undef, undef, undef, undef, undef, undef, undef, undef], []⟩) W3.drew A y 0 (.slice (some ⟨bk, off, none⟩) kids.length c') (.agg #[.string op1, .string name1, .int .i64 n1, .int .i64 m1, .slice o1 l1 c1, .string fk1, .int .i64 fa1, .int .i64 fb1, .string fc1, .string fd1, .slice o1' l1' c1']) (.agg #[.string op2, .string name2, .int .i64 n2, .int .i64 m2, .slice o2 l2 c2, .string fk2, .int .i64 fa2, .int .i64 fb2, .string fc2, .string fd2, .slice o2' l2' c2']) (.slice (some ⟨pb, po, none⟩) (pl + 1) pc) (.slice (some ⟨pb, po1, none⟩) pl (pc - 1)) k bk off (X 0) (X 1) (X 2) (X 3) (X 4) (X 5) (X 6) (X 7) (X 8) (X 9) (X 10) (X 11) (X 12) (X 13) (X 14) a w') (by kernel_rfl) (by kernel_rfl) (by kernel_rfl) ?_ ?_ ?_
  · exact ⟨_, _, _, _, _, _, _, _, _, _, _, _, _, _, undef, fun _ => False, 0, rfl, fun h => (by cases h), fun h => (by cases h), fun h => (by cases h), fun h => (by cases h), fun h => (by cases h), fun h => (by cases h), fun h => (by cases h), fun h => (by cases h), fun h => (by cases h), fun h => (by cases h), fun h => (by cases h), fun h => (by cases h), fun h => (by cases h), Below.refl _ _, fun _ h => h.elim, fun h => (by cases h), fun h => (by cases h)⟩
  · intro i oo ho
    match i, ho with
    | 0, ho =>
      obtain rfl := Option.some.inj ho
      rintro X a W K hX hpre ⟨t9, t10, t29, t30, t31, t32, t33, t34, t35, t36, t37, t38, t39, t40, v', S, N, rfl, i0, i1, i2, i3, i4, i5, i6, i7, g8, g9, g10, g11, g14, hB, hS, hV, hN⟩ hK
      have hBs : W3.heap.size ≤ W.heap.size := hB.size
      clear ih k0 q0 f0 gx0 r0 rz0 q1 f1 gx1 r1 rz1 q2 f2 gx2 r2 rz2 q3 f3 gx3 r3 rz3 q4 f4 gx4 r4 rz4 q5 f5 gx5 r5 rz5 q6 f6 gx6 r6 rz6 q7 f7 gx7 r7 rz7 q8 f8 gx8 r8 rz8 q9 f9 gx9 r9 rz9 q10 f10 gx10 r10 rz10
      go_simp
      apply hK
      simp only [Nat.reduceEqDiff, decide_false, decide_true, Bool.or_false, Bool.or_true]
      exact ⟨_, _, _, _, _, _, _, _, _, _, _, _, _, _, v', S, N, rfl, fun _ => rfl, i1, i2, i3, i4, i5, i6, i7, g8, g9, g10, g11, g14, hB, hS, hV, hN⟩
    | 1, ho =>
      obtain rfl := Option.some.inj ho
      rintro X a W K hX hpre ⟨t9, t10, t29, t30, t31, t32, t33, t34, t35, t36, t37, t38, t39, t40, v', S, N, rfl, i0, i1, i2, i3, i4, i5, i6, i7, g8, g9, g10, g11, g14, hB, hS, hV, hN⟩ hK
      have hBs : W3.heap.size ≤ W.heap.size := hB.size
      have d0 := i0 (hpre.1 ⟨0, .data⟩ (by simp) rfl)
      subst d0
      have z : W.cell? ⟨w.heap.size, 10, none⟩ = _ := (hB.cell (show w.heap.size < W3.heap.size by omega)).trans f10
      clear ih k0 q0 f0 gx0 r0 rz0 q1 f1 gx1 r1 rz1 q2 f2 gx2 r2 rz2 q3 f3 gx3 r3 rz3 q4 f4 gx4 r4 rz4 q5 f5 gx5 r5 rz5 q6 f6 gx6 r6 rz6 q7 f7 gx7 r7 rz7 q8 f8 gx8 r8 rz8 q9 f9 gx9 r9 rz9 q10 f10 gx10 r10 rz10
      go_simp
      apply hK
      simp only [Nat.reduceEqDiff, decide_false, decide_true, Bool.or_false, Bool.or_true]
      exact ⟨_, _, _, _, _, _, _, _, _, _, _, _, _, _, v', S, N, rfl, fun _ => rfl, fun _ => rfl, i2, i3, i4, i5, i6, i7, g8, g9, g10, g11, g14, hB, hS, hV, hN⟩
    | 2, ho =>
      obtain rfl := Option.some.inj ho
      rintro X a W K hX hpre ⟨t9, t10, t29, t30, t31, t32, t33, t34, t35, t36, t37, t38, t39, t40, v', S, N, rfl, i0, i1, i2, i3, i4, i5, i6, i7, g8, g9, g10, g11, g14, hB, hS, hV, hN⟩ hK
      have hBs : W3.heap.size ≤ W.heap.size := hB.size
      clear ih k0 q0 f0 gx0 r0 rz0 q1 f1 gx1 r1 rz1 q2 f2 gx2 r2 rz2 q3 f3 gx3 r3 rz3 q4 f4 gx4 r4 rz4 q5 f5 gx5 r5 rz5 q6 f6 gx6 r6 rz6 q7 f7 gx7 r7 rz7 q8 f8 gx8 r8 rz8 q9 f9 gx9 r9 rz9 q10 f10 gx10 r10 rz10
      go_simp
      apply hK
      simp only [Nat.reduceEqDiff, decide_false, decide_true, Bool.or_false, Bool.or_true]
      exact ⟨_, _, _, _, _, _, _, _, _, _, _, _, _, _, v', S, N, rfl, i0, i1, fun _ => rfl, i3, i4, i5, i6, i7, g8, g9, g10, g11, g14, hB, hS, hV, hN⟩
    | 3, ho =>
      obtain rfl := Option.some.inj ho
      rintro X a W K hX hpre ⟨t9, t10, t29, t30, t31, t32, t33, t34, t35, t36, t37, t38, t39, t40, v', S, N, rfl, i0, i1, i2, i3, i4, i5, i6, i7, g8, g9, g10, g11, g14, hB, hS, hV, hN⟩ hK
      have hBs : W3.heap.size ≤ W.heap.size := hB.size
      have d1 := i1 (hpre.1 ⟨1, .data⟩ (by simp) rfl)
      have d2 := i2 (hpre.1 ⟨2, .data⟩ (by simp) rfl)
      subst d1
      subst d2
      clear ih k0 q0 f0 gx0 r0 rz0 q1 f1 gx1 r1 rz1 q2 f2 gx2 r2 rz2 q3 f3 gx3 r3 rz3 q4 f4 gx4 r4 rz4 q5 f5 gx5 r5 rz5 q6 f6 gx6 r6 rz6 q7 f7 gx7 r7 rz7 q8 f8 gx8 r8 rz8 q9 f9 gx9 r9 rz9 q10 f10 gx10 r10 rz10
      go_simp
      apply hK
      simp only [Nat.reduceEqDiff, decide_false, decide_true, Bool.or_false, Bool.or_true]
      exact ⟨_, _, _, _, _, _, _, _, _, _, _, _, _, _, v', S, N, rfl, i0, fun _ => rfl, fun _ => rfl, fun _ => rfl, i4, i5, i6, i7, g8, g9, g10, g11, g14, hB, hS, hV, hN⟩
    | 4, ho =>
      obtain rfl := Option.some.inj ho
      rintro X a W K hX hpre ⟨t9, t10, t29, t30, t31, t32, t33, t34, t35, t36, t37, t38, t39, t40, v', S, N, rfl, i0, i1, i2, i3, i4, i5, i6, i7, g8, g9, g10, g11, g14, hB, hS, hV, hN⟩ hK
      have hBs : W3.heap.size ≤ W.heap.size := hB.size
      have d3 := i3 (hpre.1 ⟨3, .data⟩ (by simp) rfl)
      subst d3
      have z0 : W.cell? ⟨bk, off + k * 11, none⟩ = _ := (hB.cell (show bk < W3.heap.size by omega)).trans q0
      have z1 : W.cell? ⟨bk, off + k * 11 + 1, none⟩ = _ := (hB.cell (show bk < W3.heap.size by omega)).trans q1
      have z2 : W.cell? ⟨bk, off + k * 11 + 2, none⟩ = _ := (hB.cell (show bk < W3.heap.size by omega)).trans q2
      have z3 : W.cell? ⟨bk, off + k * 11 + 3, none⟩ = _ := (hB.cell (show bk < W3.heap.size by omega)).trans q3
      have z4 : W.cell? ⟨bk, off + k * 11 + 4, none⟩ = _ := (hB.cell (show bk < W3.heap.size by omega)).trans q4
      have z5 : W.cell? ⟨bk, off + k * 11 + 5, none⟩ = _ := (hB.cell (show bk < W3.heap.size by omega)).trans q5
      have z6 : W.cell? ⟨bk, off + k * 11 + 6, none⟩ = _ := (hB.cell (show bk < W3.heap.size by omega)).trans q6
      have z7 : W.cell? ⟨bk, off + k * 11 + 7, none⟩ = _ := (hB.cell (show bk < W3.heap.size by omega)).trans q7
      have z8 : W.cell? ⟨bk, off + k * 11 + 8, none⟩ = _ := (hB.cell (show bk < W3.heap.size by omega)).trans q8
      have z9 : W.cell? ⟨bk, off + k * 11 + 9, none⟩ = _ := (hB.cell (show bk < W3.heap.size by omega)).trans q9
      have z10 : W.cell? ⟨bk, off + k * 11 + 10, none⟩ = _ := (hB.cell (show bk < W3.heap.size by omega)).trans q10
      clear ih k0 q0 f0 gx0 r0 rz0 q1 f1 gx1 r1 rz1 q2 f2 gx2 r2 rz2 q3 f3 gx3 r3 rz3 q4 f4 gx4 r4 rz4 q5 f5 gx5 r5 rz5 q6 f6 gx6 r6 rz6 q7 f7 gx7 r7 rz7 q8 f8 gx8 r8 rz8 q9 f9 gx9 r9 rz9 q10 f10 gx10 r10 rz10
      go_simp
      apply hK
      simp only [Nat.reduceEqDiff, decide_false, decide_true, Bool.or_false, Bool.or_true]
      exact ⟨_, _, _, _, _, _, _, _, _, _, _, _, _, _, v', S, N, rfl, i0, i1, i2, fun _ => rfl, fun _ => rfl, i5, i6, i7, g8, g9, g10, g11, g14, hB, hS, hV, hN⟩
    | 5, ho =>
      obtain rfl := Option.some.inj ho
      rintro X a W K hX hpre ⟨t9, t10, t29, t30, t31, t32, t33, t34, t35, t36, t37, t38, t39, t40, v', S, N, rfl, i0, i1, i2, i3, i4, i5, i6, i7, g8, g9, g10, g11, g14, hB, hS, hV, hN⟩ hK
      have hBs : W3.heap.size ≤ W.heap.size := hB.size
      clear ih k0 q0 f0 gx0 r0 rz0 q1 f1 gx1 r1 rz1 q2 f2 gx2 r2 rz2 q3 f3 gx3 r3 rz3 q4 f4 gx4 r4 rz4 q5 f5 gx5 r5 rz5 q6 f6 gx6 r6 rz6 q7 f7 gx7 r7 rz7 q8 f8 gx8 r8 rz8 q9 f9 gx9 r9 rz9 q10 f10 gx10 r10 rz10
      go_simp
      apply hK
      simp only [Nat.reduceEqDiff, decide_false, decide_true, Bool.or_false, Bool.or_true]
      exact ⟨_, _, _, _, _, _, _, _, _, _, _, _, _, _, v', S, N, rfl, i0, i1, i2, i3, i4, fun _ => rfl, i6, i7, g8, g9, g10, g11, g14, hB, hS, hV, hN⟩
    | 6, ho =>
      obtain rfl := Option.some.inj ho
      rintro X a W K hX hpre ⟨t9, t10, t29, t30, t31, t32, t33, t34, t35, t36, t37, t38, t39, t40, v', S, N, rfl, i0, i1, i2, i3, i4, i5, i6, i7, g8, g9, g10, g11, g14, hB, hS, hV, hN⟩ hK
      have hBs : W3.heap.size ≤ W.heap.size := hB.size
      have d5 := i5 (hpre.1 ⟨5, .data⟩ (by simp) rfl)
      subst d5
      have h1p : (1 : Int) ≤ (pl : Int) + 1 := by omega
      have hif : (if pc = 1 then some (⟨pb, po, none⟩ : Addr) else some ⟨pb, po + 1, none⟩) = some ⟨pb, po1, none⟩ := by rcases hpo with ⟨h1, h2⟩ | ⟨h1, h2⟩ <;> subst h2 <;> first | rw [if_pos h1] | rw [if_neg (by omega)]
      clear hpo
      clear ih k0 q0 f0 gx0 r0 rz0 q1 f1 gx1 r1 rz1 q2 f2 gx2 r2 rz2 q3 f3 gx3 r3 rz3 q4 f4 gx4 r4 rz4 q5 f5 gx5 r5 rz5 q6 f6 gx6 r6 rz6 q7 f7 gx7 r7 rz7 q8 f8 gx8 r8 rz8 q9 f9 gx9 r9 rz9 q10 f10 gx10 r10 rz10
      go_simp
      apply hK
      simp only [Nat.reduceEqDiff, decide_false, decide_true, Bool.or_false, Bool.or_true]
      exact ⟨_, _, _, _, _, _, _, _, _, _, _, _, _, _, v', S, N, rfl, i0, i1, i2, i3, i4, fun _ => rfl, fun _ => rfl, i7, g8, g9, g10, g11, g14, hB, hS, hV, hN⟩
    | 7, ho =>
      obtain rfl := Option.some.inj ho
      rintro X a W K hX hpre ⟨t9, t10, t29, t30, t31, t32, t33, t34, t35, t36, t37, t38, t39, t40, v', S, N, rfl, i0, i1, i2, i3, i4, i5, i6, i7, g8, g9, g10, g11, g14, hB, hS, hV, hN⟩ hK
      have hBs : W3.heap.size ≤ W.heap.size := hB.size
      have z0 : W.cell? ⟨w.heap.size + 1, 0, none⟩ = _ := (hB.cell (show w.heap.size + 1 < W3.heap.size by omega)).trans gx0
      have z1 : W.cell? ⟨w.heap.size + 1, 1, none⟩ = _ := (hB.cell (show w.heap.size + 1 < W3.heap.size by omega)).trans gx1
      have z2 : W.cell? ⟨w.heap.size + 1, 2, none⟩ = _ := (hB.cell (show w.heap.size + 1 < W3.heap.size by omega)).trans gx2
      have z3 : W.cell? ⟨w.heap.size + 1, 3, none⟩ = _ := (hB.cell (show w.heap.size + 1 < W3.heap.size by omega)).trans gx3
      have z4 : W.cell? ⟨w.heap.size + 1, 4, none⟩ = _ := (hB.cell (show w.heap.size + 1 < W3.heap.size by omega)).trans gx4
      have z5 : W.cell? ⟨w.heap.size + 1, 5, none⟩ = _ := (hB.cell (show w.heap.size + 1 < W3.heap.size by omega)).trans gx5
      have z6 : W.cell? ⟨w.heap.size + 1, 6, none⟩ = _ := (hB.cell (show w.heap.size + 1 < W3.heap.size by omega)).trans gx6
      have z7 : W.cell? ⟨w.heap.size + 1, 7, none⟩ = _ := (hB.cell (show w.heap.size + 1 < W3.heap.size by omega)).trans gx7
      have z8 : W.cell? ⟨w.heap.size + 1, 8, none⟩ = _ := (hB.cell (show w.heap.size + 1 < W3.heap.size by omega)).trans gx8
      have z9 : W.cell? ⟨w.heap.size + 1, 9, none⟩ = _ := (hB.cell (show w.heap.size + 1 < W3.heap.size by omega)).trans gx9
      have z10 : W.cell? ⟨w.heap.size + 1, 10, none⟩ = _ := (hB.cell (show w.heap.size + 1 < W3.heap.size by omega)).trans gx10
      clear ih k0 q0 f0 gx0 r0 rz0 q1 f1 gx1 r1 rz1 q2 f2 gx2 r2 rz2 q3 f3 gx3 r3 rz3 q4 f4 gx4 r4 rz4 q5 f5 gx5 r5 rz5 q6 f6 gx6 r6 rz6 q7 f7 gx7 r7 rz7 q8 f8 gx8 r8 rz8 q9 f9 gx9 r9 rz9 q10 f10 gx10 r10 rz10
      go_simp
      apply hK
      simp only [Nat.reduceEqDiff, decide_false, decide_true, Bool.or_false, Bool.or_true]
      exact ⟨_, _, _, _, _, _, _, _, _, _, _, _, _, _, v', S, N, rfl, i0, i1, i2, i3, i4, i5, i6, fun _ => rfl, g8, g9, g10, g11, g14, hB, hS, hV, hN⟩
    | 8, ho =>
      obtain rfl := Option.some.inj ho
      rintro X a W K hX hpre ⟨t9, t10, t29, t30, t31, t32, t33, t34, t35, t36, t37, t38, t39, t40, v', S, N, rfl, i0, i1, i2, i3, i4, i5, i6, i7, g8, g9, g10, g11, g14, hB, hS, hV, hN⟩ hK
      have xx9 : X 9 = false := by
        cases h : X 9 with
        | false => rfl
        | true =>
          have c0 : X 8 = true := hpre.2 9 _ h rfl ⟨8, .data⟩ (by simp) rfl
          rw [hX] at c0; cases c0
      have xx10 : X 10 = false := by
        cases h : X 10 with
        | false => rfl
        | true =>
          have c0 : X 9 = true := hpre.2 10 _ h rfl ⟨9, .data⟩ (by simp) rfl
          have c1 : X 8 = true := hpre.2 9 _ c0 rfl ⟨8, .data⟩ (by simp) rfl
          rw [hX] at c1; cases c1
      have xx11 : X 11 = false := by
        cases h : X 11 with
        | false => rfl
        | true =>
          have c0 : X 9 = true := hpre.2 11 _ h rfl ⟨9, .data⟩ (by simp) rfl
          have c1 : X 8 = true := hpre.2 9 _ c0 rfl ⟨8, .data⟩ (by simp) rfl
          rw [hX] at c1; cases c1
      have xx13 : X 13 = false := by
        cases h : X 13 with
        | false => rfl
        | true =>
          have c0 : X 8 = true := hpre.2 13 _ h rfl ⟨8, .chain⟩ (by simp) rfl
          rw [hX] at c0; cases c0
      have xx14 : X 14 = false := by
        cases h : X 14 with
        | false => rfl
        | true =>
          have c0 : X 8 = true := hpre.2 14 _ h rfl ⟨8, .phase⟩ (by simp) rfl
          rw [hX] at c0; cases c0
      have d4 := i4 (hpre.1 ⟨4, .data⟩ (by simp) rfl)
      have d6 := i6 (hpre.1 ⟨6, .data⟩ (by simp) rfl)
      have d7 := i7 (hpre.1 ⟨7, .data⟩ (by simp) rfl)
      subst d4
      subst d6
      subst d7
      have hBs : W3.heap.size ≤ W.heap.size := hB.size
      have hcall := ih W (hb3.trans (Below.mono (B := W3.heap.size) ⟨hB.os, hB.tape, hB.output, hB.size, hB.block⟩ (by omega)))
      clear ih k0 q0 f0 gx0 r0 rz0 q1 f1 gx1 r1 rz1 q2 f2 gx2 r2 rz2 q3 f3 gx3 r3 rz3 q4 f4 gx4 r4 rz4 q5 f5 gx5 r5 rz5 q6 f6 gx6 r6 rz6 q7 f7 gx7 r7 rz7 q8 f8 gx8 r8 rz8 q9 f9 gx9 r9 rz9 q10 f10 gx10 r10 rz10
      go_simp
      go_wp2_with (go_at_call 9; refine hcall.mono ?_; rintro e w' ⟨v3, S3, rfl, hv3, hb4, hr3, hS3⟩)
      simp only [Nat.reduceEqDiff, decide_false, decide_true, Bool.or_false, Bool.or_true]
      refine ⟨_, _, _, _, _, _, _, _, _, _, _, _, _, _, v3, S3, N, rfl, i0, i1, i2, i3, fun _ => rfl, i5, fun _ => rfl, fun _ => rfl, fun _ => rfl, fun h => (by rw [xx9] at h; cases h), fun h => (by rw [xx10] at h; cases h), fun h => (by rw [xx11] at h; cases h), fun h => (by rw [xx14] at h; cases h), hB.trans (hb4.mono hBs), fun b hb => ?_, fun _ => ⟨hv3, hr3⟩, fun h => ?_⟩
      · obtain ⟨a1, a2⟩ := hS3 b hb; exact ⟨a1, a2.imp_right fun h => Nat.le_trans hBs h⟩
      · obtain ⟨p1, p2, p3, p4, p5, p6⟩ := hN h
        have p2' : W3.heap.size ≤ N := p2
        refine ⟨p1, p2, Nat.lt_of_lt_of_le p3 hb4.size, fun h => ?_, fun j hj => ?_, fun h => (by rw [xx13] at h; cases h)⟩
        · rcases (hS3 N h).2 with h | h
          · have := hA N h; omega
          · omega
        · rw [hb4.cell p3, hb4.frozen p3]; exact p5 j hj
    | 9, ho =>
      obtain rfl := Option.some.inj ho
      rintro X a W K hX hpre ⟨t9, t10, t29, t30, t31, t32, t33, t34, t35, t36, t37, t38, t39, t40, v', S, N, rfl, i0, i1, i2, i3, i4, i5, i6, i7, g8, g9, g10, g11, g14, hB, hS, hV, hN⟩ hK
      have d8 := g8 (hpre.1 ⟨8, .data⟩ (by simp) rfl)
      subst d8
      clear ih k0 q0 f0 gx0 r0 rz0 q1 f1 gx1 r1 rz1 q2 f2 gx2 r2 rz2 q3 f3 gx3 r3 rz3 q4 f4 gx4 r4 rz4 q5 f5 gx5 r5 rz5 q6 f6 gx6 r6 rz6 q7 f7 gx7 r7 rz7 q8 f8 gx8 r8 rz8 q9 f9 gx9 r9 rz9 q10 f10 gx10 r10 rz10
      go_simp
      apply hK
      simp only [Nat.reduceEqDiff, decide_false, decide_true, Bool.or_false, Bool.or_true]
      exact ⟨_, _, _, _, _, _, _, _, _, _, _, _, _, _, v', S, N, rfl, i0, i1, i2, i3, i4, i5, i6, i7, fun _ => rfl, fun _ => rfl, g10, g11, g14, hB, hS, hV, hN⟩
    | 10, ho =>
      obtain rfl := Option.some.inj ho
      rintro X a W K hX hpre ⟨t9, t10, t29, t30, t31, t32, t33, t34, t35, t36, t37, t38, t39, t40, v', S, N, rfl, i0, i1, i2, i3, i4, i5, i6, i7, g8, g9, g10, g11, g14, hB, hS, hV, hN⟩ hK
      have d9 := g9 (hpre.1 ⟨9, .data⟩ (by simp) rfl)
      subst d9
      clear ih k0 q0 f0 gx0 r0 rz0 q1 f1 gx1 r1 rz1 q2 f2 gx2 r2 rz2 q3 f3 gx3 r3 rz3 q4 f4 gx4 r4 rz4 q5 f5 gx5 r5 rz5 q6 f6 gx6 r6 rz6 q7 f7 gx7 r7 rz7 q8 f8 gx8 r8 rz8 q9 f9 gx9 r9 rz9 q10 f10 gx10 r10 rz10
      go_simp
      apply hK
      simp only [Nat.reduceEqDiff, decide_false, decide_true, Bool.or_false, Bool.or_true]
      exact ⟨_, _, _, _, _, _, _, _, _, _, _, _, _, _, v', S, N, rfl, i0, i1, i2, i3, i4, i5, i6, i7, g8, fun _ => rfl, fun _ => rfl, g11, g14, hB, hS, hV, hN⟩
    | 11, ho =>
      obtain rfl := Option.some.inj ho
      rintro X a W K hX hpre ⟨t9, t10, t29, t30, t31, t32, t33, t34, t35, t36, t37, t38, t39, t40, v', S, N, rfl, i0, i1, i2, i3, i4, i5, i6, i7, g8, g9, g10, g11, g14, hB, hS, hV, hN⟩ hK
      have d9 := g9 (hpre.1 ⟨9, .data⟩ (by simp) rfl)
      subst d9
      clear ih k0 q0 f0 gx0 r0 rz0 q1 f1 gx1 r1 rz1 q2 f2 gx2 r2 rz2 q3 f3 gx3 r3 rz3 q4 f4 gx4 r4 rz4 q5 f5 gx5 r5 rz5 q6 f6 gx6 r6 rz6 q7 f7 gx7 r7 rz7 q8 f8 gx8 r8 rz8 q9 f9 gx9 r9 rz9 q10 f10 gx10 r10 rz10
      go_simp
      apply hK
      simp only [Nat.reduceEqDiff, decide_false, decide_true, Bool.or_false, Bool.or_true]
      exact ⟨_, _, _, _, _, _, _, _, _, _, _, _, _, _, v', S, N, rfl, i0, i1, i2, i3, i4, i5, i6, i7, g8, fun _ => rfl, g10, fun _ => rfl, g14, hB, hS, hV, hN⟩
    | 12, ho =>
      obtain rfl := Option.some.inj ho
      rintro X a W K hX hpre ⟨t9, t10, t29, t30, t31, t32, t33, t34, t35, t36, t37, t38, t39, t40, v', S, N, rfl, i0, i1, i2, i3, i4, i5, i6, i7, g8, g9, g10, g11, g14, hB, hS, hV, hN⟩ hK
      have xx13 : X 13 = false := by
        cases h : X 13 with
        | false => rfl
        | true =>
          have c0 : X 12 = true := hpre.2 13 _ h rfl ⟨12, .data⟩ (by simp) rfl
          rw [hX] at c0; cases c0
      have hBs : W3.heap.size ≤ W.heap.size := hB.size
      clear ih k0 q0 f0 gx0 r0 rz0 q1 f1 gx1 r1 rz1 q2 f2 gx2 r2 rz2 q3 f3 gx3 r3 rz3 q4 f4 gx4 r4 rz4 q5 f5 gx5 r5 rz5 q6 f6 gx6 r6 rz6 q7 f7 gx7 r7 rz7 q8 f8 gx8 r8 rz8 q9 f9 gx9 r9 rz9 q10 f10 gx10 r10 rz10
      go_simp
      apply hK
      simp only [Nat.reduceEqDiff, decide_false, decide_true, Bool.or_false, Bool.or_true]
      refine ⟨_, _, _, _, _, _, _, _, _, _, _, _, _, _, v', S, W.heap.size, rfl, i0, i1, i2, i3, i4, i5, i6, i7, g8, g9, g10, g11, g14, hB.alloc hBs _, fun b hb => ?_, fun h => ⟨(hV h).1, (hV h).2.ext (by simp) fun b hb ht => ⟨ht, Below.heap_alloc _ _ _ hb⟩⟩, fun _ => ⟨rfl, hBs, by simp, fun h => absurd (hS _ h).1 (Nat.lt_irrefl _), fun j hj => ?_, fun h => (by rw [xx13] at h; cases h)⟩⟩
      · obtain ⟨a1, a2⟩ := hS b hb; exact ⟨by simp; omega, a2⟩
      · match j, hj with
        | 0, _ => exact ⟨⟨_, by go_simp; try rfl⟩, by go_simp⟩
        | 1, _ => exact ⟨⟨_, by go_simp; try rfl⟩, by go_simp⟩
        | 2, _ => exact ⟨⟨_, by go_simp; try rfl⟩, by go_simp⟩
        | 3, _ => exact ⟨⟨_, by go_simp; try rfl⟩, by go_simp⟩
        | 4, _ => exact ⟨⟨_, by go_simp; try rfl⟩, by go_simp⟩
        | 5, _ => exact ⟨⟨_, by go_simp; try rfl⟩, by go_simp⟩
        | 6, _ => exact ⟨⟨_, by go_simp; try rfl⟩, by go_simp⟩
        | 7, _ => exact ⟨⟨_, by go_simp; try rfl⟩, by go_simp⟩
        | 8, _ => exact ⟨⟨_, by go_simp; try rfl⟩, by go_simp⟩
        | 9, _ => exact ⟨⟨_, by go_simp; try rfl⟩, by go_simp⟩
        | 10, _ => exact ⟨⟨_, by go_simp; try rfl⟩, by go_simp⟩
    | 13, ho =>
      obtain rfl := Option.some.inj ho
      rintro X a W K hX hpre ⟨t9, t10, t29, t30, t31, t32, t33, t34, t35, t36, t37, t38, t39, t40, v', S, N, rfl, i0, i1, i2, i3, i4, i5, i6, i7, g8, g9, g10, g11, g14, hB, hS, hV, hN⟩ hK
      have d8 : X 8 = true := hpre.1 ⟨8, .chain⟩ (by simp) rfl
      have d12 : X 12 = true := hpre.1 ⟨12, .data⟩ (by simp) rfl
      have d10 := g10 (hpre.1 ⟨10, .data⟩ (by simp) rfl)
      obtain ⟨rfl, p2, p3, p4, p5, p6⟩ := hN d12
      obtain ⟨hv, hr⟩ := hV d8
      have hv' := hv
      subst d10
      obtain ⟨op3, name3, n3, m3, o3, l3, c3, fk3, fa3, fb3, fc3, fd3, o3', l3', c3', rfl⟩ := hv
      unfold blkV at *
      obtain ⟨⟨u0, z0⟩, y0⟩ := p5 0 (by decide)
      obtain ⟨⟨u1, z1⟩, y1⟩ := p5 1 (by decide)
      obtain ⟨⟨u2, z2⟩, y2⟩ := p5 2 (by decide)
      obtain ⟨⟨u3, z3⟩, y3⟩ := p5 3 (by decide)
      obtain ⟨⟨u4, z4⟩, y4⟩ := p5 4 (by decide)
      obtain ⟨⟨u5, z5⟩, y5⟩ := p5 5 (by decide)
      obtain ⟨⟨u6, z6⟩, y6⟩ := p5 6 (by decide)
      obtain ⟨⟨u7, z7⟩, y7⟩ := p5 7 (by decide)
      obtain ⟨⟨u8, z8⟩, y8⟩ := p5 8 (by decide)
      obtain ⟨⟨u9, z9⟩, y9⟩ := p5 9 (by decide)
      obtain ⟨⟨u10, z10⟩, y10⟩ := p5 10 (by decide)
      clear p5 p6
      clear ih k0 q0 f0 gx0 r0 rz0 q1 f1 gx1 r1 rz1 q2 f2 gx2 r2 rz2 q3 f3 gx3 r3 rz3 q4 f4 gx4 r4 rz4 q5 f5 gx5 r5 rz5 q6 f6 gx6 r6 rz6 q7 f7 gx7 r7 rz7 q8 f8 gx8 r8 rz8 q9 f9 gx9 r9 rz9 q10 f10 gx10 r10 rz10
      go_simp
      apply hK
      simp only [Nat.reduceEqDiff, decide_false, decide_true, Bool.or_false, Bool.or_true]
      have ht := (((((((((((Tch.refl N W).set 0 (.string op3)).set 1 (.string name3)).set 2 (.int .i64 n3)).set 3 (.int .i64 m3)).set 4 (.slice o3 l3 c3)).set 5 (.string fk3)).set 6 (.int .i64 fa3)).set 7 (.int .i64 fb3)).set 8 (.string fc3)).set 9 (.string fd3)).set 10 (.slice o3' l3' c3')
      have p2' : W3.heap.size ≤ N := p2
      refine ⟨_, _, _, _, _, _, _, _, _, _, _, _, _, _, _, S, N, rfl, i0, i1, i2, i3, i4, i5, i6, i7, fun _ => rfl, g9, fun _ => rfl, g11, g14, ⟨ht.os.trans hB.os, ht.tape.trans hB.tape, ht.output.trans hB.output, by rw [ht.size]; exact hB.size, fun b hb => (ht.block b (by have hb' : b < W3.heap.size := hb; omega)).trans (hB.block b hb)⟩, fun b hb => ?_, fun _ => ⟨hv', hr.ext (Nat.le_of_eq ht.size.symm) fun b hb hbt => ⟨hbt, ht.block b fun e => p4 (e ▸ gS_free.1 hbt)⟩⟩, fun _ => ⟨rfl, p2, by rw [ht.size]; exact p3, p4, fun j hj => ?_, fun _ j hj => ?_⟩⟩
      · obtain ⟨a1, a2⟩ := hS b hb; exact ⟨by rw [ht.size]; exact a1, a2⟩
      · match j, hj with
        | 0, _ => exact ⟨⟨_, by go_simp; try rfl⟩, by go_simp⟩
        | 1, _ => exact ⟨⟨_, by go_simp; try rfl⟩, by go_simp⟩
        | 2, _ => exact ⟨⟨_, by go_simp; try rfl⟩, by go_simp⟩
        | 3, _ => exact ⟨⟨_, by go_simp; try rfl⟩, by go_simp⟩
        | 4, _ => exact ⟨⟨_, by go_simp; try rfl⟩, by go_simp⟩
        | 5, _ => exact ⟨⟨_, by go_simp; try rfl⟩, by go_simp⟩
        | 6, _ => exact ⟨⟨_, by go_simp; try rfl⟩, by go_simp⟩
        | 7, _ => exact ⟨⟨_, by go_simp; try rfl⟩, by go_simp⟩
        | 8, _ => exact ⟨⟨_, by go_simp; try rfl⟩, by go_simp⟩
        | 9, _ => exact ⟨⟨_, by go_simp; try rfl⟩, by go_simp⟩
        | 10, _ => exact ⟨⟨_, by go_simp; try rfl⟩, by go_simp⟩
      · match j, hj with
        | 0, _ => go_simp; try rfl
        | 1, _ => go_simp; try rfl
        | 2, _ => go_simp; try rfl
        | 3, _ => go_simp; try rfl
        | 4, _ => go_simp; try rfl
        | 5, _ => go_simp; try rfl
        | 6, _ => go_simp; try rfl
        | 7, _ => go_simp; try rfl
        | 8, _ => go_simp; try rfl
        | 9, _ => go_simp; try rfl
        | 10, _ => go_simp; try rfl
    | 14, ho =>
      obtain rfl := Option.some.inj ho
      rintro X a W K hX hpre ⟨t9, t10, t29, t30, t31, t32, t33, t34, t35, t36, t37, t38, t39, t40, v', S, N, rfl, i0, i1, i2, i3, i4, i5, i6, i7, g8, g9, g10, g11, g14, hB, hS, hV, hN⟩ hK
      have d11 := g11 (hpre.1 ⟨11, .data⟩ (by simp) rfl)
      subst d11
      clear ih k0 q0 f0 gx0 r0 rz0 q1 f1 gx1 r1 rz1 q2 f2 gx2 r2 rz2 q3 f3 gx3 r3 rz3 q4 f4 gx4 r4 rz4 q5 f5 gx5 r5 rz5 q6 f6 gx6 r6 rz6 q7 f7 gx7 r7 rz7 q8 f8 gx8 r8 rz8 q9 f9 gx9 r9 rz9 q10 f10 gx10 r10 rz10
      go_simp
      apply hK
      simp only [Nat.reduceEqDiff, decide_false, decide_true, Bool.or_false, Bool.or_true]
      exact ⟨_, _, _, _, _, _, _, _, _, _, _, _, _, _, v', S, N, rfl, i0, i1, i2, i3, i4, i5, i6, i7, g8, g9, g10, fun _ => rfl, fun _ => rfl, hB, hS, hV, hN⟩
    | i + 15, ho => simp at ho
  · intro X a V hX
    rintro ⟨t9, t10, t29, t30, t31, t32, t33, t34, t35, t36, t37, t38, t39, t40, v', S, N, rfl, i0, i1, i2, i3, i4, i5, i6, i7, g8, g9, g10, g11, g14, hB, hS, hV, hN⟩
    have hall : ∀ k, k < 15 → X k = true := hX
    have k0 := i0 (hall 0 (by decide))
    have k1 := i1 (hall 1 (by decide))
    have k2 := i2 (hall 2 (by decide))
    have k3 := i3 (hall 3 (by decide))
    have k4 := i4 (hall 4 (by decide))
    have k5 := i5 (hall 5 (by decide))
    have k6 := i6 (hall 6 (by decide))
    have k7 := i7 (hall 7 (by decide))
    have k8 := g8 (hall 8 (by decide))
    have k9 := g9 (hall 9 (by decide))
    have k10 := g10 (hall 10 (by decide))
    have k11 := g11 (hall 11 (by decide))
    have k14 := g14 (hall 14 (by decide))
    obtain ⟨hv, hr⟩ := hV (hall 8 (by decide))
    obtain ⟨kN, p2, p3, p4, p5, p6⟩ := hN (hall 12 (by decide))
    have p6 := p6 (hall 13 (by decide))
    have hBs : W3.heap.size ≤ V.heap.size := hB.size
    have p2' : W3.heap.size ≤ N := p2
    have hbV : Below w.heap.size w V := hb3.trans (Below.mono (B := W3.heap.size) ⟨hB.os, hB.tape, hB.output, hB.size, hB.block⟩ (by omega))
    have hv' := hv
    subst k0 k1 k2 k3 k4 k5 k6 k7 k8 k9 k10 k11 k14 kN
    obtain ⟨op3, name3, n3, m3, o3, l3, c3, fk3, fa3, fb3, fc3, fd3, o3', l3', c3', rfl⟩ := hv
    unfold blkV at *
    have vr0 : V.cell? ⟨w.heap.size + 1 + 1, 0, none⟩ = _ := (hB.cell (show w.heap.size + 1 + 1 < W3.heap.size by omega)).trans r0
    have vz0 : V.frozen? ⟨w.heap.size + 1 + 1, 0, none⟩ = false := (hB.frozen (show w.heap.size + 1 + 1 < W3.heap.size by omega)).trans rz0
    have va0 : V.cell? ⟨w.heap.size, 0, none⟩ = _ := (hB.cell (show w.heap.size < W3.heap.size by omega)).trans f0
    have vn0 : V.cell? ⟨N, 0, none⟩ = some (.string op3) := p6 0 (by decide)
    have vr1 : V.cell? ⟨w.heap.size + 1 + 1, 1, none⟩ = _ := (hB.cell (show w.heap.size + 1 + 1 < W3.heap.size by omega)).trans r1
    have vz1 : V.frozen? ⟨w.heap.size + 1 + 1, 1, none⟩ = false := (hB.frozen (show w.heap.size + 1 + 1 < W3.heap.size by omega)).trans rz1
    have va1 : V.cell? ⟨w.heap.size, 1, none⟩ = _ := (hB.cell (show w.heap.size < W3.heap.size by omega)).trans f1
    have vn1 : V.cell? ⟨N, 1, none⟩ = some (.string name3) := p6 1 (by decide)
    have vr2 : V.cell? ⟨w.heap.size + 1 + 1, 2, none⟩ = _ := (hB.cell (show w.heap.size + 1 + 1 < W3.heap.size by omega)).trans r2
    have vz2 : V.frozen? ⟨w.heap.size + 1 + 1, 2, none⟩ = false := (hB.frozen (show w.heap.size + 1 + 1 < W3.heap.size by omega)).trans rz2
    have va2 : V.cell? ⟨w.heap.size, 2, none⟩ = _ := (hB.cell (show w.heap.size < W3.heap.size by omega)).trans f2
    have vn2 : V.cell? ⟨N, 2, none⟩ = some (.int .i64 n3) := p6 2 (by decide)
    have vr3 : V.cell? ⟨w.heap.size + 1 + 1, 3, none⟩ = _ := (hB.cell (show w.heap.size + 1 + 1 < W3.heap.size by omega)).trans r3
    have vz3 : V.frozen? ⟨w.heap.size + 1 + 1, 3, none⟩ = false := (hB.frozen (show w.heap.size + 1 + 1 < W3.heap.size by omega)).trans rz3
    have va3 : V.cell? ⟨w.heap.size, 3, none⟩ = _ := (hB.cell (show w.heap.size < W3.heap.size by omega)).trans f3
    have vn3 : V.cell? ⟨N, 3, none⟩ = some (.int .i64 m3) := p6 3 (by decide)
    have vr4 : V.cell? ⟨w.heap.size + 1 + 1, 4, none⟩ = _ := (hB.cell (show w.heap.size + 1 + 1 < W3.heap.size by omega)).trans r4
    have vz4 : V.frozen? ⟨w.heap.size + 1 + 1, 4, none⟩ = false := (hB.frozen (show w.heap.size + 1 + 1 < W3.heap.size by omega)).trans rz4
    have va4 : V.cell? ⟨w.heap.size, 4, none⟩ = _ := (hB.cell (show w.heap.size < W3.heap.size by omega)).trans f4
    have vn4 : V.cell? ⟨N, 4, none⟩ = some (.slice o3 l3 c3) := p6 4 (by decide)
    have vr5 : V.cell? ⟨w.heap.size + 1 + 1, 5, none⟩ = _ := (hB.cell (show w.heap.size + 1 + 1 < W3.heap.size by omega)).trans r5
    have vz5 : V.frozen? ⟨w.heap.size + 1 + 1, 5, none⟩ = false := (hB.frozen (show w.heap.size + 1 + 1 < W3.heap.size by omega)).trans rz5
    have va5 : V.cell? ⟨w.heap.size, 5, none⟩ = _ := (hB.cell (show w.heap.size < W3.heap.size by omega)).trans f5
    have vn5 : V.cell? ⟨N, 5, none⟩ = some (.string fk3) := p6 5 (by decide)
    have vr6 : V.cell? ⟨w.heap.size + 1 + 1, 6, none⟩ = _ := (hB.cell (show w.heap.size + 1 + 1 < W3.heap.size by omega)).trans r6
    have vz6 : V.frozen? ⟨w.heap.size + 1 + 1, 6, none⟩ = false := (hB.frozen (show w.heap.size + 1 + 1 < W3.heap.size by omega)).trans rz6
    have va6 : V.cell? ⟨w.heap.size, 6, none⟩ = _ := (hB.cell (show w.heap.size < W3.heap.size by omega)).trans f6
    have vn6 : V.cell? ⟨N, 6, none⟩ = some (.int .i64 fa3) := p6 6 (by decide)
    have vr7 : V.cell? ⟨w.heap.size + 1 + 1, 7, none⟩ = _ := (hB.cell (show w.heap.size + 1 + 1 < W3.heap.size by omega)).trans r7
    have vz7 : V.frozen? ⟨w.heap.size + 1 + 1, 7, none⟩ = false := (hB.frozen (show w.heap.size + 1 + 1 < W3.heap.size by omega)).trans rz7
    have va7 : V.cell? ⟨w.heap.size, 7, none⟩ = _ := (hB.cell (show w.heap.size < W3.heap.size by omega)).trans f7
    have vn7 : V.cell? ⟨N, 7, none⟩ = some (.int .i64 fb3) := p6 7 (by decide)
    have vr8 : V.cell? ⟨w.heap.size + 1 + 1, 8, none⟩ = _ := (hB.cell (show w.heap.size + 1 + 1 < W3.heap.size by omega)).trans r8
    have vz8 : V.frozen? ⟨w.heap.size + 1 + 1, 8, none⟩ = false := (hB.frozen (show w.heap.size + 1 + 1 < W3.heap.size by omega)).trans rz8
    have va8 : V.cell? ⟨w.heap.size, 8, none⟩ = _ := (hB.cell (show w.heap.size < W3.heap.size by omega)).trans f8
    have vn8 : V.cell? ⟨N, 8, none⟩ = some (.string fc3) := p6 8 (by decide)
    have vr9 : V.cell? ⟨w.heap.size + 1 + 1, 9, none⟩ = _ := (hB.cell (show w.heap.size + 1 + 1 < W3.heap.size by omega)).trans r9
    have vz9 : V.frozen? ⟨w.heap.size + 1 + 1, 9, none⟩ = false := (hB.frozen (show w.heap.size + 1 + 1 < W3.heap.size by omega)).trans rz9
    have va9 : V.cell? ⟨w.heap.size, 9, none⟩ = _ := (hB.cell (show w.heap.size < W3.heap.size by omega)).trans f9
    have vn9 : V.cell? ⟨N, 9, none⟩ = some (.string fd3) := p6 9 (by decide)
    have vr10 : V.cell? ⟨w.heap.size + 1 + 1, 10, none⟩ = _ := (hB.cell (show w.heap.size + 1 + 1 < W3.heap.size by omega)).trans r10
    have vz10 : V.frozen? ⟨w.heap.size + 1 + 1, 10, none⟩ = false := (hB.frozen (show w.heap.size + 1 + 1 < W3.heap.size by omega)).trans rz10
    have va10 : V.cell? ⟨w.heap.size, 10, none⟩ = _ := (hB.cell (show w.heap.size < W3.heap.size by omega)).trans f10
    have vn10 : V.cell? ⟨N, 10, none⟩ = some (.slice o3' l3' c3') := p6 10 (by decide)
    clear i0 i1 i2 i3 i4 i5 i6 i7 g8 g9 g10 g11 g14 hV hN hall hX p5 p6 hB ih k0 q0 f0 gx0 r0 rz0 q1 f1 gx1 r1 rz1 q2 f2 gx2 r2 rz2 q3 f3 gx3 r3 rz3 q4 f4 gx4 r4 rz4 q5 f5 gx5 r5 rz5 q6 f6 gx6 r6 rz6 q7 f7 gx7 r7 rz7 q8 f8 gx8 r8 rz8 q9 f9 gx9 r9 rz9 q10 f10 gx10 r10 rz10
    have hS' : ∀ q, S q → q < V.heap.size ∧ (A q ∨ w.heap.size + 3 ≤ q) := fun q hq => ⟨(hS q hq).1, (hS q hq).2.imp_right fun h => by have h' : W3.heap.size ≤ q := h; omega⟩
    have hsV : w.heap.size + 3 ≤ V.heap.size := by omega
    have hVA : Below V.heap.size V (V.alloc (.cells #[.string op, .string name, .int .i64 n, .int .i64 m, .slice o l c, .string fk, .int .i64 fa, .int .i64 fb, .string fc, .string fd, .slice (some ⟨bk, off, none⟩) kids.length c'] 27)) := b_alloc (Below.refl _ _) _
    have hsA : (V.alloc (.cells #[.string op, .string name, .int .i64 n, .int .i64 m, .slice o l c, .string fk, .int .i64 fa, .int .i64 fb, .string fc, .string fd, .slice (some ⟨bk, off, none⟩) kids.length c'] 27)).heap.size = V.heap.size + 1 := by simp
    have hksV : PRep Try.prog (V.alloc (.cells #[.string op, .string name, .int .i64 n, .int .i64 m, .slice o l c, .string fk, .int .i64 fa, .int .i64 fb, .string fc, .string fd, .slice (some ⟨bk, off, none⟩) kids.length c'] 27)) (gS A) (.sl 27) (.sl kids) (.slice (some ⟨bk, off, none⟩) kids.length c') := hks.ext (by omega) fun q hq ht => ⟨ht, (hVA.block q (by omega)).trans (hbV.block q hq)⟩
    have hpos : 0 < kids.length := by omega
    have lt1 : w.heap.size < V.heap.size := by omega
    have lt2 : w.heap.size + 1 + 1 < V.heap.size := by omega
    have hpost := fun (b cap : Nat) (w2 wa wb wc : World) (f : Nat → Value) => ref_post (op := op) (name := name) (n := n) (m := m) (fk := fk) (fa := fa) (fb := fb) (fc := fc) (fd := fd) (w2 := w2) (wa := wa) (wb := wb) (wc := wc) (b := b) (cap := cap) (f := f) (X := (.cells #[.string op, .string name, .int .i64 n, .int .i64 m, .slice o l c, .string fk, .int .i64 fa, .int .i64 fb, .string fc, .string fd, .slice (some ⟨bk, off, none⟩) kids.length c'] 27)) hA hk hbV hsV hn hr hS'
    clear hr hv' hS hS' p4 p2 p2' hks hA hn hbV hsV hBs hb3 hs3 hpo hp
    go_wp2_with (first
    | (
     at_builtin; refine wpList_kids rfl (.tmp 46) (.tmp 48) rfl hsA.symm rfl rfl hksV hpos hlk2 ?_; intro b cap w2 f hb1 hb2 hb3 hbz hbr hbc hbe hbw;
     have hpost2 := fun wa wb wc => hpost b cap w2 wa wb wc f hb1 hb2 hb3 hbr hbc hbw;
     have hb1' : V.heap.size + 1 ≤ b := by rw [← hsA]; exact hb1;
     have a0 : w2.cell? ⟨V.heap.size, 0, none⟩ = some (.string op) := (hbw.cell (show V.heap.size < _ by rw [hsA]; omega)).trans (by go_simp);
     have e0 : w2.cell? ⟨N, 0, none⟩ = some (.string op3) := (hbw.cell (show N < _ by rw [hsA]; omega)).trans ((hVA.cell p3).trans vn0);
     have rr0 : w2.cell? ⟨w.heap.size + 1 + 1, 0, none⟩ = some (.string ⟨#[]⟩) := (hbw.cell (show w.heap.size + 1 + 1 < _ by rw [hsA]; omega)).trans ((hVA.cell lt2).trans vr0);
     have rf0 : w2.frozen? ⟨w.heap.size + 1 + 1, 0, none⟩ = false := (hbw.frozen (show w.heap.size + 1 + 1 < _ by rw [hsA]; omega)).trans ((hVA.frozen lt2).trans vz0);
     have ⟨u0, cb0⟩ : ∃ u, w2.cell? ⟨b, k * 11, none⟩ = some u := hbe k hk 0 (by decide);
     have bz0 : w2.frozen? ⟨b, k * 11, none⟩ = false := hbz _;
     have a1 : w2.cell? ⟨V.heap.size, 1, none⟩ = some (.string name) := (hbw.cell (show V.heap.size < _ by rw [hsA]; omega)).trans (by go_simp);
     have e1 : w2.cell? ⟨N, 1, none⟩ = some (.string name3) := (hbw.cell (show N < _ by rw [hsA]; omega)).trans ((hVA.cell p3).trans vn1);
     have rr1 : w2.cell? ⟨w.heap.size + 1 + 1, 1, none⟩ = some (.string ⟨#[]⟩) := (hbw.cell (show w.heap.size + 1 + 1 < _ by rw [hsA]; omega)).trans ((hVA.cell lt2).trans vr1);
     have rf1 : w2.frozen? ⟨w.heap.size + 1 + 1, 1, none⟩ = false := (hbw.frozen (show w.heap.size + 1 + 1 < _ by rw [hsA]; omega)).trans ((hVA.frozen lt2).trans vz1);
     have ⟨u1, cb1⟩ : ∃ u, w2.cell? ⟨b, k * 11 + 1, none⟩ = some u := hbe k hk 1 (by decide);
     have bz1 : w2.frozen? ⟨b, k * 11 + 1, none⟩ = false := hbz _;
     have a2 : w2.cell? ⟨V.heap.size, 2, none⟩ = some (.int .i64 n) := (hbw.cell (show V.heap.size < _ by rw [hsA]; omega)).trans (by go_simp);
     have e2 : w2.cell? ⟨N, 2, none⟩ = some (.int .i64 n3) := (hbw.cell (show N < _ by rw [hsA]; omega)).trans ((hVA.cell p3).trans vn2);
     have rr2 : w2.cell? ⟨w.heap.size + 1 + 1, 2, none⟩ = some (.int .i64 0) := (hbw.cell (show w.heap.size + 1 + 1 < _ by rw [hsA]; omega)).trans ((hVA.cell lt2).trans vr2);
     have rf2 : w2.frozen? ⟨w.heap.size + 1 + 1, 2, none⟩ = false := (hbw.frozen (show w.heap.size + 1 + 1 < _ by rw [hsA]; omega)).trans ((hVA.frozen lt2).trans vz2);
     have ⟨u2, cb2⟩ : ∃ u, w2.cell? ⟨b, k * 11 + 2, none⟩ = some u := hbe k hk 2 (by decide);
     have bz2 : w2.frozen? ⟨b, k * 11 + 2, none⟩ = false := hbz _;
     have a3 : w2.cell? ⟨V.heap.size, 3, none⟩ = some (.int .i64 m) := (hbw.cell (show V.heap.size < _ by rw [hsA]; omega)).trans (by go_simp);
     have e3 : w2.cell? ⟨N, 3, none⟩ = some (.int .i64 m3) := (hbw.cell (show N < _ by rw [hsA]; omega)).trans ((hVA.cell p3).trans vn3);
     have rr3 : w2.cell? ⟨w.heap.size + 1 + 1, 3, none⟩ = some (.int .i64 0) := (hbw.cell (show w.heap.size + 1 + 1 < _ by rw [hsA]; omega)).trans ((hVA.cell lt2).trans vr3);
     have rf3 : w2.frozen? ⟨w.heap.size + 1 + 1, 3, none⟩ = false := (hbw.frozen (show w.heap.size + 1 + 1 < _ by rw [hsA]; omega)).trans ((hVA.frozen lt2).trans vz3);
     have ⟨u3, cb3⟩ : ∃ u, w2.cell? ⟨b, k * 11 + 3, none⟩ = some u := hbe k hk 3 (by decide);
     have bz3 : w2.frozen? ⟨b, k * 11 + 3, none⟩ = false := hbz _;
     have a4 : w2.cell? ⟨V.heap.size, 4, none⟩ = some (.slice o l c) := (hbw.cell (show V.heap.size < _ by rw [hsA]; omega)).trans (by go_simp);
     have e4 : w2.cell? ⟨N, 4, none⟩ = some (.slice o3 l3 c3) := (hbw.cell (show N < _ by rw [hsA]; omega)).trans ((hVA.cell p3).trans vn4);
     have rr4 : w2.cell? ⟨w.heap.size + 1 + 1, 4, none⟩ = some (.slice none 0 0) := (hbw.cell (show w.heap.size + 1 + 1 < _ by rw [hsA]; omega)).trans ((hVA.cell lt2).trans vr4);
     have rf4 : w2.frozen? ⟨w.heap.size + 1 + 1, 4, none⟩ = false := (hbw.frozen (show w.heap.size + 1 + 1 < _ by rw [hsA]; omega)).trans ((hVA.frozen lt2).trans vz4);
     have ⟨u4, cb4⟩ : ∃ u, w2.cell? ⟨b, k * 11 + 4, none⟩ = some u := hbe k hk 4 (by decide);
     have bz4 : w2.frozen? ⟨b, k * 11 + 4, none⟩ = false := hbz _;
     have a5 : w2.cell? ⟨V.heap.size, 5, none⟩ = some (.string fk) := (hbw.cell (show V.heap.size < _ by rw [hsA]; omega)).trans (by go_simp);
     have e5 : w2.cell? ⟨N, 5, none⟩ = some (.string fk3) := (hbw.cell (show N < _ by rw [hsA]; omega)).trans ((hVA.cell p3).trans vn5);
     have rr5 : w2.cell? ⟨w.heap.size + 1 + 1, 5, none⟩ = some (.string ⟨#[]⟩) := (hbw.cell (show w.heap.size + 1 + 1 < _ by rw [hsA]; omega)).trans ((hVA.cell lt2).trans vr5);
     have rf5 : w2.frozen? ⟨w.heap.size + 1 + 1, 5, none⟩ = false := (hbw.frozen (show w.heap.size + 1 + 1 < _ by rw [hsA]; omega)).trans ((hVA.frozen lt2).trans vz5);
     have ⟨u5, cb5⟩ : ∃ u, w2.cell? ⟨b, k * 11 + 5, none⟩ = some u := hbe k hk 5 (by decide);
     have bz5 : w2.frozen? ⟨b, k * 11 + 5, none⟩ = false := hbz _;
     have a6 : w2.cell? ⟨V.heap.size, 6, none⟩ = some (.int .i64 fa) := (hbw.cell (show V.heap.size < _ by rw [hsA]; omega)).trans (by go_simp);
     have e6 : w2.cell? ⟨N, 6, none⟩ = some (.int .i64 fa3) := (hbw.cell (show N < _ by rw [hsA]; omega)).trans ((hVA.cell p3).trans vn6);
     have rr6 : w2.cell? ⟨w.heap.size + 1 + 1, 6, none⟩ = some (.int .i64 0) := (hbw.cell (show w.heap.size + 1 + 1 < _ by rw [hsA]; omega)).trans ((hVA.cell lt2).trans vr6);
     have rf6 : w2.frozen? ⟨w.heap.size + 1 + 1, 6, none⟩ = false := (hbw.frozen (show w.heap.size + 1 + 1 < _ by rw [hsA]; omega)).trans ((hVA.frozen lt2).trans vz6);
     have ⟨u6, cb6⟩ : ∃ u, w2.cell? ⟨b, k * 11 + 6, none⟩ = some u := hbe k hk 6 (by decide);
     have bz6 : w2.frozen? ⟨b, k * 11 + 6, none⟩ = false := hbz _;
     have a7 : w2.cell? ⟨V.heap.size, 7, none⟩ = some (.int .i64 fb) := (hbw.cell (show V.heap.size < _ by rw [hsA]; omega)).trans (by go_simp);
     have e7 : w2.cell? ⟨N, 7, none⟩ = some (.int .i64 fb3) := (hbw.cell (show N < _ by rw [hsA]; omega)).trans ((hVA.cell p3).trans vn7);
     have rr7 : w2.cell? ⟨w.heap.size + 1 + 1, 7, none⟩ = some (.int .i64 0) := (hbw.cell (show w.heap.size + 1 + 1 < _ by rw [hsA]; omega)).trans ((hVA.cell lt2).trans vr7);
     have rf7 : w2.frozen? ⟨w.heap.size + 1 + 1, 7, none⟩ = false := (hbw.frozen (show w.heap.size + 1 + 1 < _ by rw [hsA]; omega)).trans ((hVA.frozen lt2).trans vz7);
     have ⟨u7, cb7⟩ : ∃ u, w2.cell? ⟨b, k * 11 + 7, none⟩ = some u := hbe k hk 7 (by decide);
     have bz7 : w2.frozen? ⟨b, k * 11 + 7, none⟩ = false := hbz _;
     have a8 : w2.cell? ⟨V.heap.size, 8, none⟩ = some (.string fc) := (hbw.cell (show V.heap.size < _ by rw [hsA]; omega)).trans (by go_simp);
     have e8 : w2.cell? ⟨N, 8, none⟩ = some (.string fc3) := (hbw.cell (show N < _ by rw [hsA]; omega)).trans ((hVA.cell p3).trans vn8);
     have rr8 : w2.cell? ⟨w.heap.size + 1 + 1, 8, none⟩ = some (.string ⟨#[]⟩) := (hbw.cell (show w.heap.size + 1 + 1 < _ by rw [hsA]; omega)).trans ((hVA.cell lt2).trans vr8);
     have rf8 : w2.frozen? ⟨w.heap.size + 1 + 1, 8, none⟩ = false := (hbw.frozen (show w.heap.size + 1 + 1 < _ by rw [hsA]; omega)).trans ((hVA.frozen lt2).trans vz8);
     have ⟨u8, cb8⟩ : ∃ u, w2.cell? ⟨b, k * 11 + 8, none⟩ = some u := hbe k hk 8 (by decide);
     have bz8 : w2.frozen? ⟨b, k * 11 + 8, none⟩ = false := hbz _;
     have a9 : w2.cell? ⟨V.heap.size, 9, none⟩ = some (.string fd) := (hbw.cell (show V.heap.size < _ by rw [hsA]; omega)).trans (by go_simp);
     have e9 : w2.cell? ⟨N, 9, none⟩ = some (.string fd3) := (hbw.cell (show N < _ by rw [hsA]; omega)).trans ((hVA.cell p3).trans vn9);
     have rr9 : w2.cell? ⟨w.heap.size + 1 + 1, 9, none⟩ = some (.string ⟨#[]⟩) := (hbw.cell (show w.heap.size + 1 + 1 < _ by rw [hsA]; omega)).trans ((hVA.cell lt2).trans vr9);
     have rf9 : w2.frozen? ⟨w.heap.size + 1 + 1, 9, none⟩ = false := (hbw.frozen (show w.heap.size + 1 + 1 < _ by rw [hsA]; omega)).trans ((hVA.frozen lt2).trans vz9);
     have ⟨u9, cb9⟩ : ∃ u, w2.cell? ⟨b, k * 11 + 9, none⟩ = some u := hbe k hk 9 (by decide);
     have bz9 : w2.frozen? ⟨b, k * 11 + 9, none⟩ = false := hbz _;
     have a10 : w2.cell? ⟨V.heap.size, 10, none⟩ = some (.slice (some ⟨bk, off, none⟩) kids.length c') := (hbw.cell (show V.heap.size < _ by rw [hsA]; omega)).trans (by go_simp);
     have e10 : w2.cell? ⟨N, 10, none⟩ = some (.slice o3' l3' c3') := (hbw.cell (show N < _ by rw [hsA]; omega)).trans ((hVA.cell p3).trans vn10);
     have rr10 : w2.cell? ⟨w.heap.size + 1 + 1, 10, none⟩ = some (.slice none 0 0) := (hbw.cell (show w.heap.size + 1 + 1 < _ by rw [hsA]; omega)).trans ((hVA.cell lt2).trans vr10);
     have rf10 : w2.frozen? ⟨w.heap.size + 1 + 1, 10, none⟩ = false := (hbw.frozen (show w.heap.size + 1 + 1 < _ by rw [hsA]; omega)).trans ((hVA.frozen lt2).trans vz10);
     have ⟨u10, cb10⟩ : ∃ u, w2.cell? ⟨b, k * 11 + 10, none⟩ = some u := hbe k hk 10 (by decide);
     have bz10 : w2.frozen? ⟨b, k * 11 + 10, none⟩ = false := hbz _;
     rw [Nat.add_zero] at cb0;
     have az : w2.frozen? ⟨V.heap.size, 10, none⟩ = false := (hbw.frozen (show V.heap.size < _ by rw [hsA]; omega)).trans (by go_simp);
     have hst : ∀ j, j < 11 → ∃ u, (w2.setCell ⟨V.heap.size, 10, none⟩ (.slice (some ⟨b, 0, none⟩) kids.length cap)).cell? ⟨b, k * 11 + j, none⟩ = some u := fun j hj => by rw [World.cell?_of_block (w := w2) (Below.heap_setCell _ _ _ _ (show b ≠ V.heap.size by omega))]; exact hbe k hk j hj;
     have ta := (Tch.refl V.heap.size w2).set 10 (.slice (some ⟨b, 0, none⟩) kids.length cap);
     have hst2 := st11 (w2.setCell ⟨V.heap.size, 10, none⟩ (.slice (some ⟨b, 0, none⟩) kids.length cap)) b (k * 11) (.string op3) (.string name3) (.int .i64 n3) (.int .i64 m3) (.slice o3 l3 c3) (.string fk3) (.int .i64 fa3) (.int .i64 fb3) (.string fc3) (.string fd3) (.slice o3' l3' c3') hst;
     have d1 : ¬ (b = V.heap.size) := by omega;
     have d1' : ¬ (V.heap.size = b) := by omega;
     have d2 : ¬ (b = N) := by omega;
     have d2' : ¬ (N = b) := by omega;
     have d3 : ¬ (b = w.heap.size + 1 + 1) := by omega;
     have d3' : ¬ (w.heap.size + 1 + 1 = b) := by omega;
     have d4 : ¬ (V.heap.size = N) := by omega;
     have d4' : ¬ (N = V.heap.size) := by omega;
     have d5 : ¬ (V.heap.size = w.heap.size + 1 + 1) := by omega;
     have d5' : ¬ (w.heap.size + 1 + 1 = V.heap.size) := by omega;
     clear hbz hbr hbc hbe hbw hb1 hb2 hb3 hpost hksV hst vr0 vz0 va0 vn0 vr1 vz1 va1 vn1 vr2 vz2 va2 vn2 vr3 vz3 va3 vn3 vr4 vz4 va4 vn4 vr5 vz5 va5 vn5 vr6 vz6 va6 vn6 vr7 vz7 va7 vn7 vr8 vz8 va8 vn8 vr9 vz9 va9 vn9 vr10 vz10 va10 vn10;
     obtain ⟨wq, ewq, hst2⟩ := hst2;
     have hpost3 := fun wc => hpost2 _ wq wc ta hst2;
     rw [ewq] at hpost3;
     clear hpost2 hst2 ewq ta)
    | (with_reducible show bodyPost _ _ _ _ _ _; refine bodyPost_ret (by simp [results, Try.results9, go_sem, d1, d1', d2, d2', d3, d3', d5, d5', rr0, rr1, rr2, rr3, rr4, rr5, rr6, rr7, rr8, rr9, rr10]; try rfl) rfl ?_; generalize hwz : (World.setCell _ ⟨b, k * 11 + 10, none⟩ _) = wz at hpost3 ⊢; obtain ⟨S', q1, q2, q3⟩ := hpost3 _ ((((((((((((Tch.refl (w.heap.size + 1 + 1) wz).set 0 (.string op)).set 1 (.string name)).set 2 (.int .i64 n)).set 3 (.int .i64 m)).set 4 (.slice o l c)).set 5 (.string fk)).set 6 (.int .i64 fa)).set 7 (.int .i64 fb)).set 8 (.string fc)).set 9 (.string fd)).set 10 (.slice (some ⟨b, 0, none⟩) kids.length cap)); refine ⟨_, S', rfl, ?_, q1, ?_, q3⟩; exact isV_blk _ _ _ _ _ _ _ _ _ _ _ _ _ _ _; exact q2))
end Go.V
