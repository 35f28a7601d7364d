/- BlockPlaces: whatever the input, the law answers true and leaves its input as it was. Conditions: none beyond the row's own. -/
import Derived.Test.YtcdkljinnmphjaaVU
set_option linter.unusedSimpArgs false
set_option linter.unusedVariables false
set_option maxRecDepth 100000
namespace Go.Proofs.Ytcdkljinnmphjaa
open Go.ChangeShapes Go.WideShapes Go.ChangeAt Go.RowKit Go.V

def pS : List TypeId := [9, 38, 3, 25, 27, 2, 22, 24, 28]
theorem pS_all : pS.all (plainTy Try.prog pS) = true := by kernel_rfl
theorem pS_ok : ∀ t, pS.contains t = true → plainTy Try.prog pS t = true := fun t ht => List.all_eq_true.1 pS_all t (List.contains_iff_mem.1 ht)

theorem Try.own : ownKnob Try.prog.godebug = none := by kernel_rfl
theorem Try.laidOut : laidOutB Try.prog = true := by kernel_rfl

theorem t9 : tyOf Try.prog 9 = .str := by kernel_rfl
theorem t3 : tyOf Try.prog 3 = .int .i64 := by kernel_rfl
theorem t25 : tyOf Try.prog 25 = .sl 27 := by kernel_rfl

theorem t28 : tyOf Try.prog 28 = .sl 3 := by kernel_rfl
theorem bytes3 : Try.prog.bytesOf 3 = 8 := by kernel_rfl

theorem places_args {xs : List PV} (h : WTs Try.prog Try.f3.params.toList xs) : ∃ call, CallOk Try.prog call ∧ call 3 (mkArgs Try.prog Try.f3.params.toList xs) = some ([.pv .bool (.bool true)], []) := by
  rw [Try.params3] at h ⊢
  match xs, h with
  | [x0, x1, x2], ⟨h0, h1, h2, _⟩ =>
    rw [ty27] at h0 h1
    rw [t28] at h2
    obtain ⟨l, rfl, hk, hl⟩ := h2.sl_inv
    rw [t3] at hk
    rw [bytes3] at hl
    have hr := reach_room
    have hb := isBlk_of _ (Nat.le_refl _) h0
    have hx := isBlk_of _ (Nat.le_refl _) h1
    obtain ⟨K, h⟩ := law_ev hb hx (pl := l) ⟨fun p hp => by obtain ⟨n, rfl, _⟩ := (hk p hp).int_inv; exact ⟨n, rfl⟩, by omega⟩
    refine ⟨EG qPut K, evG_sound _ _ base_ok K, ?_⟩
    have := h K (Nat.le_refl _)
    simp only [mkArgs, ty27, t28]
    exact this

theorem places_lifted (os : Os) (started : os.Started) (H : Type) (enc : TypeId × Value → H) :
    ReturnsInHanded {} Try.checked os 3 .any (Rows.blockPlacesSpec.pre6 enc Try.prog Try.f3 Rows.blockPlacesRow.domain false) (Rows.blockPlacesSpec.post enc Try.prog Try.f3 Rows.blockPlacesRow.apart Rows.blockPlacesRow.fresh Rows.blockPlacesRow.handsOn Rows.blockPlacesRow.again) := by
  refine returnsInHanded_of_change_sized (C := Try.checked) Try.own started (by kernel_rfl) Try.func3
    (ChangeSpec.witness6 (enc := enc) (C := Try.checked) false ⟨#[], #[.agg #[.string ⟨#[]⟩, .string ⟨#[]⟩, .int .i64 0, .int .i64 0, .slice none 0 0, .string ⟨#[]⟩, .int .i64 0, .int .i64 0, .string ⟨#[]⟩, .string ⟨#[]⟩, .slice none 0 0], .agg #[.string ⟨#[]⟩, .string ⟨#[]⟩, .int .i64 0, .int .i64 0, .slice none 0 0, .string ⟨#[]⟩, .int .i64 0, .int .i64 0, .string ⟨#[]⟩, .string ⟨#[]⟩, .slice none 0 0], .slice none 0 0], []⟩ 8 (by kernel_rfl) (by kernel_rfl) (by kernel_rfl) (by kernel_rfl)) ?_
  intro W base args ds gs before hval hW _ hw _
  refine law_contract (P := Try.prog) (fn := Try.f3) (tb := 4) pS_ok ?_ Try.laidOut (by kernel_rfl) (by kernel_rfl) rfl ?_ hval hW hw (fun xs h _ => places_args h) Try.func3 (by kernel_rfl) (of_decide_eq_true (by kernel_rfl)) (vars_try W)
  · intro t ht
    rw [Try.params3] at ht
    have : ∀ t ∈ ([27, 27, 28] : List TypeId), (pS.contains t && (Try.prog.readableRec t && decide (t < Try.prog.types.size))) = true := List.all_eq_true.1 (by kernel_rfl)
    have := this t ht
    simp only [Bool.and_eq_true, decide_eq_true_eq] at this
    exact ⟨this.1, this.2.1, this.2.2⟩
  · intro ds hds
    have hp : Try.f3.params.size = 3 := by kernel_rfl
    rw [hp] at hds
    match ds, hds with
    | [d1, d2, d3], _ => rfl

/-- WHATEVER THE INPUT: true; the input reads as it did. -/
theorem places_said : Rows.BlockPlacesSaid :=
  OpenClaim.holds_of_wide 3 Try.f3 rfl rfl rfl rfl rfl rfl rfl ⟨rfl, rfl, rfl, rfl, rfl⟩ rfl rfl rfl rfl rfl (by kernel_rfl) Try.func3 (by kernel_rfl)
    (of_decide_eq_true (by kernel_rfl)) (by unfold Func.isWrapper; first | (rw [if_pos (by decide +kernel)]; kernel_rfl) | (rw [if_neg (by decide +kernel)]; exact ⟨rfl, rfl⟩))
    (fun os started H enc _ => places_lifted os started H enc)

#print axioms places_said
end Go.Proofs.Ytcdkljinnmphjaa
