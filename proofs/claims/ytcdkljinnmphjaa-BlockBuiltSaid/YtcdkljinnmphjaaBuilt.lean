/- BlockBuilt: whatever the input, the law answers true and leaves its input as it was. Conditions: none beyond the row's own. -/
import Derived.Test.YtcdkljinnmphjaaVP
set_option linter.unusedSimpArgs false
set_option linter.unusedVariables false
set_option maxRecDepth 100000
namespace Go.Proofs.Ytcdkljinnmphjaa
open Go.ChangeShapes Go.WideShapes Go.ChangeAt Go.RowKit Go.V

def pS : List TypeId := [9, 38, 3, 25, 27, 2, 22, 24]
theorem pS_all : pS.all (plainTy Try.prog pS) = true := by kernel_rfl
theorem pS_ok : ∀ t, pS.contains t = true → plainTy Try.prog pS t = true := fun t ht => List.all_eq_true.1 pS_all t (List.contains_iff_mem.1 ht)

theorem Try.own : ownKnob Try.prog.godebug = none := by kernel_rfl
theorem Try.laidOut : laidOutB Try.prog = true := by kernel_rfl

theorem t9 : tyOf Try.prog 9 = .str := by kernel_rfl
theorem t3 : tyOf Try.prog 3 = .int .i64 := by kernel_rfl
theorem t25 : tyOf Try.prog 25 = .sl 27 := by kernel_rfl

theorem built_args {xs : List PV} (h : WTs Try.prog Try.f4.params.toList xs) : ∃ k, evF Try.prog H0 k 4 (mkArgs Try.prog Try.f4.params.toList xs) = some ([.pv .bool (.bool true)], []) := by
  rw [Try.params4] at h ⊢
  match xs, h with
  | [x0, x1, x2, x3], ⟨h0, h1, h2, h3, _⟩ =>
    rw [t9] at h0
    rw [ty38] at h1
    rw [t3] at h2
    rw [t25] at h3
    obtain ⟨op, rfl⟩ := h0.str_inv
    obtain ⟨n, rfl, _⟩ := h2.int_inv
    obtain ⟨l, rfl, hk, hl⟩ := h3.sl_inv
    have hr := reach_room
    rw [bytes27] at hl
    rw [ty27] at hk
    cases isQ_of h1 with
    | mk a b ha hb =>
      obtain ⟨K, h⟩ := built_ev op ha hb n (l := l) (fun y hy => isBlk_of _ (Nat.le_refl _) (hk y hy)) (by omega)
      refine ⟨K, ?_⟩
      have := h K (Nat.le_refl _)
      simp only [mkArgs, t9, ty38, t3, t25]
      exact this

theorem built_lifted (os : Os) (started : os.Started) (H : Type) (enc : TypeId × Value → H) :
    ReturnsInHanded {} Try.checked os 4 .any (Rows.blockBuiltSpec.pre6 enc Try.prog Try.f4 Rows.blockBuiltRow.domain false) (Rows.blockBuiltSpec.post enc Try.prog Try.f4 Rows.blockBuiltRow.apart Rows.blockBuiltRow.fresh Rows.blockBuiltRow.handsOn Rows.blockBuiltRow.again) := by
  refine returnsInHanded_of_change_sized (C := Try.checked) Try.own started (by kernel_rfl) Try.func4
    (ChangeSpec.witness6 (enc := enc) (C := Try.checked) false ⟨#[], #[.string ⟨#[]⟩, .agg #[.int .i64 0, .int .i64 0], .int .i64 0, .slice none 0 0], []⟩ 8 (by kernel_rfl) (by kernel_rfl) (by kernel_rfl) (by kernel_rfl)) ?_
  intro W base args ds gs before hval hW _ hw _
  refine law_contract (P := Try.prog) (H' := H0) (fn := Try.f4) (tb := 4) pS_ok ?_ Try.laidOut (by kernel_rfl) (by kernel_rfl) rfl ?_ hval hW hw (fun xs h _ => built_args h)
  · intro t ht
    rw [Try.params4] at ht
    have : ∀ t ∈ ([9, 38, 3, 25] : List TypeId), (pS.contains t && (Try.prog.readableRec t && decide (t < Try.prog.types.size))) = true := List.all_eq_true.1 (by kernel_rfl)
    have := this t ht
    simp only [Bool.and_eq_true, decide_eq_true_eq] at this
    exact ⟨this.1, this.2.1, this.2.2⟩
  · intro ds hds
    have hp : Try.f4.params.size = 4 := by kernel_rfl
    rw [hp] at hds
    match ds, hds with
    | [d1, d2, d3, d4], _ => rfl

/-- WHATEVER THE INPUT: true; the input reads as it did. -/
theorem built_said : Rows.BlockBuiltSaid :=
  OpenClaim.holds_of_wide 4 Try.f4 rfl rfl rfl rfl rfl rfl rfl ⟨rfl, rfl, rfl, rfl, rfl⟩ rfl rfl rfl rfl rfl (by kernel_rfl) Try.func4 (by kernel_rfl)
    (of_decide_eq_true (by kernel_rfl)) (by unfold Func.isWrapper; first | (rw [if_pos (by decide +kernel)]; kernel_rfl) | (rw [if_neg (by decide +kernel)]; exact ⟨rfl, rfl⟩))
    (fun os started H enc _ => built_lifted os started H enc)

#print axioms built_said
end Go.Proofs.Ytcdkljinnmphjaa
