/- FitKeeps: whatever the input, the law answers true and leaves its input as it was; the tied card. Conditions: none beyond the row's and the card's own. -/
import Derived.Test.YtpkphcmnknjbeaaDoorVQ
import Derived.Test.YtpkphcmnknjbeaaDoorRows
import Derived.ProofKit
import Derived.LaidMore
import Derived.Test.YtpkphcmnknjbeaaDoorCards
import Derived.Test.YtpkphcmnknjbeaaDoorTie
import Derived.SevenTiedAt
set_option linter.unusedSimpArgs false
set_option linter.unusedVariables false
set_option maxRecDepth 100000
namespace Go.Proofs.YtpkphcmnknjbeaaDoor
open Go.ChangeShapes Go.WideShapes Go.ChangeAt Go.RowKit Go.V

def pS : List TypeId := [23, 25, 3, 2, 9]
theorem pS_all : pS.all (plainTy Tryd.prog pS) = true := by kernel_rfl
theorem pS_ok : ∀ t, pS.contains t = true → plainTy Tryd.prog pS t = true := fun t ht => List.all_eq_true.1 pS_all t (List.contains_iff_mem.1 ht)

theorem Tryd.own : ownKnob Tryd.prog.godebug = none := by kernel_rfl
theorem Tryd.laidOut : laidOutB Tryd.prog = true := by kernel_rfl
theorem t23 : tyOf Tryd.prog 23 = .st 23 := by kernel_rfl
theorem t25 : tyOf Tryd.prog 25 = .st 25 := by kernel_rfl
theorem t3 : tyOf Tryd.prog 3 = .int .i64 := by kernel_rfl
theorem c23 : cellTys Tryd.prog deep 23 = [.str, .int .i64, .int .i64, .str, .str] := by kernel_rfl
theorem c25 : cellTys Tryd.prog deep 25 = [.int .i64, .int .i64] := by kernel_rfl

theorem WT.str_inv {P : Program} {x : PV} (h : WT P .str x) : ∃ s, x = .str s := by cases h; exact ⟨_, rfl⟩
theorem WT.int_inv {P : Program} {x : PV} {k : IntKind} (h : WT P (.int k) x) : ∃ n, x = .int k n ∧ (Lit.int k n).wf = true := by cases h with | int _ n h => exact ⟨n, rfl, h⟩
theorem WT.st_inv {P : Program} {x : PV} {t : TypeId} (h : WT P (.st t) x) : ∃ xs, x = .agg xs ∧ xs.length = (cellTys P deep t).length ∧ ∀ (i : Nat) (ty : Ty) (x : PV), (cellTys P deep t)[i]? = some ty → xs[i]? = some x → WT P ty x := by
  cases h with | st _ xs hx h => exact ⟨xs, rfl, hx, h⟩

theorem fmt_of {x : PV} (h : WT Tryd.prog (.st 23) x) : ∃ kind I F round over, x = fv kind I F round over := by
  obtain ⟨xs, rfl, hl, hc⟩ := WT.st_inv h
  rw [c23] at hl hc
  match xs, hl with
  | [a, b, c, d, e], _ =>
    obtain ⟨kind, rfl⟩ := WT.str_inv (hc 0 _ a rfl rfl)
    obtain ⟨I, rfl, _⟩ := WT.int_inv (hc 1 _ b rfl rfl)
    obtain ⟨F, rfl, _⟩ := WT.int_inv (hc 2 _ c rfl rfl)
    obtain ⟨round, rfl⟩ := WT.str_inv (hc 3 _ d rfl rfl)
    obtain ⟨over, rfl⟩ := WT.str_inv (hc 4 _ e rfl rfl)
    exact ⟨kind, I, F, round, over, rfl⟩

theorem q_of {x : PV} (h : WT Tryd.prog (.st 25) x) : ∃ N D, x = .agg [.int .i64 N, .int .i64 D] := by
  obtain ⟨xs, rfl, hl, hc⟩ := WT.st_inv h
  rw [c25] at hl hc
  match xs, hl with
  | [a, b], _ =>
    obtain ⟨N, rfl, _⟩ := WT.int_inv (hc 0 _ a rfl rfl)
    obtain ⟨D, rfl, _⟩ := WT.int_inv (hc 1 _ b rfl rfl)
    exact ⟨N, D, rfl⟩

theorem base_ok : CallOk Tryd.prog (add64B 72) := add64B_ok Tryd.func72 (by kernel_rfl) (by kernel_rfl) (by kernel_rfl) (by kernel_rfl)

theorem keeps_args {xs : List PV} (h : WTs Tryd.prog Tryd.f3.params.toList xs) : ∃ call, CallOk Tryd.prog call ∧ call 3 (mkArgs Tryd.prog Tryd.f3.params.toList xs) = some ([.pv .bool (.bool true)], []) := by
  rw [Tryd.params3] at h ⊢
  match xs, h with
  | [x0, x1, x2], ⟨h0, h1, h2, _⟩ =>
    rw [t23] at h0
    rw [t25] at h1
    rw [t25] at h2
    obtain ⟨kind, I, F, round, over, rfl⟩ := fmt_of h0
    obtain ⟨N, D, rfl⟩ := q_of h1
    obtain ⟨N', D', rfl⟩ := q_of h2
    obtain ⟨K, hK⟩ := keeps_ev (kind := kind) (round := round) (over := over) (I := I) (F := F) (N, D) (N', D')
    refine ⟨EG K, evG_sound _ _ base_ok K, ?_⟩
    have := hK K (Nat.le_refl _)
    simp only [mkArgs, t23, t25]
    exact this

abbrev laid3 : List (String × DataW Unit) := Rows.fitKeepsRow.laid

/-- The door's own heap meets the condition. -/
theorem door_met (os : Os) (args : Array Value) : laidMetH Tryd.prog laid3 ((World.doorLaid Tryd.prog 4000 os).forCall (fun _ _ => 0) ⟨#[], args, []⟩).memory :=
  laidMetH_of_parts3 (fuel := 8) (laidMet_of_run' 8 (by kernel_rfl) (by kernel_rfl)) (by kernel_rfl) (by kernel_rfl)

theorem lifted (os : Os) (started : os.Started) (H : Type) (enc : TypeId × Value → H) :
    ReturnsInHanded {} Tryd.checked os 3 .any (fun w args => (Rows.fitKeepsSpec.pre enc Tryd.prog Tryd.f3 [] false w args ∧ laidMetH Tryd.prog laid3 w) ∧ sizedMet enc Tryd.prog Tryd.f3 (OpenSpec.ofChange Rows.fitKeepsSpec) false w args)
      (Rows.fitKeepsSpec.post enc Tryd.prog Tryd.f3 Rows.fitKeepsRow.apart Rows.fitKeepsRow.fresh Rows.fitKeepsRow.handsOn Rows.fitKeepsRow.again) := by
  refine returnsInHanded_of_change_and (C := Tryd.checked) (X := fun w _ => laidMetH Tryd.prog laid3 w) (fun _ _ _ hh h => h.of_heap hh) Tryd.own started (by kernel_rfl) Tryd.func3
    (ChangeSpec.witness_shaped (enc := enc) (C := Tryd.checked) (os := os) (X := fun w _ => laidMetH Tryd.prog laid3 w) false (World.doorLaid Tryd.prog 4000 os) #[.agg #[.string ⟨#[]⟩, .int .i64 0, .int .i64 0, .string ⟨#[]⟩, .string ⟨#[]⟩], .agg #[.int .i64 0, .int .i64 0], .agg #[.int .i64 0, .int .i64 0]] 8 rfl (World.shaped_of_RefB (by kernel_rfl) (by kernel_rfl)) (by kernel_rfl) (by kernel_rfl) (by kernel_rfl) (door_met os _)) ?_
  intro W base args ds gs before hval hW _ hw _ _
  refine law_contract (P := Tryd.prog) (fn := Tryd.f3) (tb := 4) pS_ok ?_ Tryd.laidOut (by kernel_rfl) (by kernel_rfl) rfl ?_ hval hW hw (fun xs h _ => keeps_args h) Tryd.func3 (by kernel_rfl) (of_decide_eq_true (by kernel_rfl))
  · intro t ht
    rw [Tryd.params3] at ht
    have : ∀ t ∈ ([23, 25, 25] : List TypeId), (pS.contains t && (Tryd.prog.readableRec t && decide (t < Tryd.prog.types.size))) = true := List.all_eq_true.1 (by kernel_rfl)
    have := this t ht
    simp only [Bool.and_eq_true, decide_eq_true_eq] at this
    exact ⟨this.1, this.2.1, this.2.2⟩
  · intro ds hds
    have hp : Tryd.f3.params.size = 3 := by kernel_rfl
    rw [hp] at hds
    match ds, hds with
    | [d1, d2, d3], _ => rfl

theorem keeps_said : Rows.FitKeepsSaid :=
  OpenClaim.holds_of_wide 3 Tryd.f3 rfl rfl rfl rfl rfl rfl rfl ⟨rfl, rfl, rfl, rfl, rfl⟩ rfl rfl rfl rfl rfl (by kernel_rfl) Tryd.func3 (by kernel_rfl)
    (of_decide_eq_true (by kernel_rfl)) (by unfold Func.isWrapper; first | (rw [if_pos (by decide +kernel)]; kernel_rfl) | (rw [if_neg (by decide +kernel)]; exact ⟨rfl, rfl⟩))
    (fun os started H enc _ => lifted os started H enc)
#print axioms keeps_said
end Go.Proofs.YtpkphcmnknjbeaaDoor

set_option maxRecDepth 100000
namespace Go.Proofs.YtpkphcmnknjbeaaDoor
open Go

/-- THE TIED CARD OF 'serinettelaw02.FitKeeps'. -/
theorem keeps_card : Rows.FitKeepsCardSaid :=
  Claim7.holds_tied_plain_at .later [] [.data, .data, .data] true (true, "672aff10940fbc8a22f5185dd35006c44d3abf19806b7a1dad44a5713e7c29bc") false
    keeps_said (fun _ h => by cases h) (by kernel_rfl) (fun _ h => by cases h) fitKeeps_row_tie rfl ⟨rfl, rfl⟩ (by kernel_rfl) rfl
    (fun f fn hf hfn => by
      obtain rfl : f = 3 := Option.some.inj ((show Tryd.prog.funcNamed "serinette/serinettelaw02.FitKeeps" = some 3 by kernel_rfl).symm.trans hf) |>.symm
      obtain rfl : fn = Tryd.f3 := (Option.some.inj (Tryd.func3.symm.trans hfn)).symm
      exact ⟨by kernel_rfl, fun j t ht => by
        rw [Tryd.params3] at ht
        have hm : t ∈ [23, 25, 25] := by simpa using Array.mem_of_getElem? ht
        have hall : ([23, 25, 25].all fun u => !Tryd.prog.wantsStandIn u) = true := by kernel_rfl
        exact (show Tryd.prog.wantsStandIn t = false by simpa using List.all_eq_true.1 hall t hm)⟩)
    (by kernel_rfl)
#print axioms keeps_card
end Go.Proofs.YtpkphcmnknjbeaaDoor
