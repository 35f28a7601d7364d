/- FormatSays: whatever the input, the law answers true and leaves its input as it was; the tied card. Conditions: none beyond the row's and the card's own. -/
import Derived.Test.YtpkphcmnknjbeaaDoorVT
import Derived.Test.YtpkphcmnknjbeaaDoorRows
import Derived.ProofKit
import Derived.LaidMore
import Derived.Test.YtpkphcmnknjbeaaDoorCards
import Derived.Test.YtpkphcmnknjbeaaDoorTie
import Derived.SevenTiedAt
set_option linter.unusedSimpArgs false
set_option linter.unusedVariables false
set_option maxRecDepth 100000
namespace Go.Proofs.YtpkphcmnknjbeaaDoor
open Go.ChangeShapes Go.WideShapes Go.ChangeAt Go.RowKit Go.V

def pS : List TypeId := [45, 23, 25, 3, 2, 9]
theorem pS_all : pS.all (plainTy Tryd.prog pS) = true := by kernel_rfl
theorem pS_ok : ∀ t, pS.contains t = true → plainTy Tryd.prog pS t = true := fun t ht => List.all_eq_true.1 pS_all t (List.contains_iff_mem.1 ht)

theorem Tryd.own : ownKnob Tryd.prog.godebug = none := by kernel_rfl
theorem Tryd.laidOut : laidOutB Tryd.prog = true := by kernel_rfl
theorem t23 : tyOf Tryd.prog 23 = .st 23 := by kernel_rfl
theorem t25 : tyOf Tryd.prog 25 = .st 25 := by kernel_rfl
theorem t3 : tyOf Tryd.prog 3 = .int .i64 := by kernel_rfl
theorem c23 : cellTys Tryd.prog deep 23 = [.str, .int .i64, .int .i64, .str, .str] := by kernel_rfl
theorem c25 : cellTys Tryd.prog deep 25 = [.int .i64, .int .i64] := by kernel_rfl

theorem WT.str_inv {P : Program} {x : PV} (h : WT P .str x) : ∃ s, x = .str s := by cases h; exact ⟨_, rfl⟩
theorem WT.int_inv {P : Program} {x : PV} {k : IntKind} (h : WT P (.int k) x) : ∃ n, x = .int k n ∧ (Lit.int k n).wf = true := by cases h with | int _ n h => exact ⟨n, rfl, h⟩
theorem WT.st_inv {P : Program} {x : PV} {t : TypeId} (h : WT P (.st t) x) : ∃ xs, x = .agg xs ∧ xs.length = (cellTys P deep t).length ∧ ∀ (i : Nat) (ty : Ty) (x : PV), (cellTys P deep t)[i]? = some ty → xs[i]? = some x → WT P ty x := by
  cases h with | st _ xs hx h => exact ⟨xs, rfl, hx, h⟩

theorem t45 : tyOf Tryd.prog 45 = .st 45 := by kernel_rfl
theorem c45 : cellTys Tryd.prog deep 45 = [.str, .int .i64, .int .i64, .str, .str, .int .i64, .int .i64, .int .i64, .int .i64, .int .i64] := by kernel_rfl

theorem case_of {x : PV} (h : WT Tryd.prog (.st 45) x) : ∃ kind I F round over a b code, x = caseV kind I F round over a b code := by
  obtain ⟨xs, rfl, hl, hc⟩ := WT.st_inv h
  rw [c45] at hl hc
  match xs, hl with
  | [a, b, c, d, e, f, g, i, j, l], _ =>
    obtain ⟨kind, rfl⟩ := WT.str_inv (hc 0 _ a rfl rfl)
    obtain ⟨I, rfl, _⟩ := WT.int_inv (hc 1 _ b rfl rfl)
    obtain ⟨F, rfl, _⟩ := WT.int_inv (hc 2 _ c rfl rfl)
    obtain ⟨round, rfl⟩ := WT.str_inv (hc 3 _ d rfl rfl)
    obtain ⟨over, rfl⟩ := WT.str_inv (hc 4 _ e rfl rfl)
    obtain ⟨a1, rfl, _⟩ := WT.int_inv (hc 5 _ f rfl rfl)
    obtain ⟨a2, rfl, _⟩ := WT.int_inv (hc 6 _ g rfl rfl)
    obtain ⟨b1, rfl, _⟩ := WT.int_inv (hc 7 _ i rfl rfl)
    obtain ⟨b2, rfl, _⟩ := WT.int_inv (hc 8 _ j rfl rfl)
    obtain ⟨code, rfl, _⟩ := WT.int_inv (hc 9 _ l rfl rfl)
    exact ⟨kind, I, F, round, over, (a1, a2), (b1, b2), code, rfl⟩

theorem base_ok : CallOk Tryd.prog (add64B 72) := add64B_ok Tryd.func72 (by kernel_rfl) (by kernel_rfl) (by kernel_rfl) (by kernel_rfl)

theorem says_args {xs : List PV} (h : WTs Tryd.prog Tryd.f5.params.toList xs) : ∃ call, CallOk Tryd.prog call ∧ call 5 (mkArgs Tryd.prog Tryd.f5.params.toList xs) = some ([.pv .bool (.bool true)], []) := by
  rw [Tryd.params5] at h ⊢
  match xs, h with
  | [x0], ⟨h0, _⟩ =>
    rw [t45] at h0
    obtain ⟨kind, I, F, round, over, a, b, code, rfl⟩ := case_of h0
    obtain ⟨K, hK⟩ := says_ev (kind := kind) (round := round) (over := over) (I := I) (F := F) a b code
    refine ⟨EG K, evG_sound _ _ base_ok K, ?_⟩
    have := hK K (Nat.le_refl _)
    simp only [mkArgs, t45]
    exact this

abbrev laid3 : List (String × DataW Unit) := Rows.formatSaysRow.laid

/-- The door's own heap meets the condition. -/
theorem door_met (os : Os) (args : Array Value) : laidMetH Tryd.prog laid3 ((World.doorLaid Tryd.prog 4000 os).forCall (fun _ _ => 0) ⟨#[], args, []⟩).memory :=
  laidMetH_of_parts3 (fuel := 8) (laidMet_of_run' 8 (by kernel_rfl) (by kernel_rfl)) (by kernel_rfl) (by kernel_rfl)

theorem lifted (os : Os) (started : os.Started) (H : Type) (enc : TypeId × Value → H) :
    ReturnsInHanded {} Tryd.checked os 5 .any (fun w args => (Rows.formatSaysSpec.pre enc Tryd.prog Tryd.f5 [] false w args ∧ laidMetH Tryd.prog laid3 w) ∧ sizedMet enc Tryd.prog Tryd.f5 (OpenSpec.ofChange Rows.formatSaysSpec) false w args)
      (Rows.formatSaysSpec.post enc Tryd.prog Tryd.f5 Rows.formatSaysRow.apart Rows.formatSaysRow.fresh Rows.formatSaysRow.handsOn Rows.formatSaysRow.again) := by
  refine returnsInHanded_of_change_and (C := Tryd.checked) (X := fun w _ => laidMetH Tryd.prog laid3 w) (fun _ _ _ hh h => h.of_heap hh) Tryd.own started (by kernel_rfl) Tryd.func5
    (ChangeSpec.witness_shaped (enc := enc) (C := Tryd.checked) (os := os) (X := fun w _ => laidMetH Tryd.prog laid3 w) false (World.doorLaid Tryd.prog 4000 os) #[.agg #[.string ⟨#[]⟩, .int .i64 0, .int .i64 0, .string ⟨#[]⟩, .string ⟨#[]⟩, .int .i64 0, .int .i64 0, .int .i64 0, .int .i64 0, .int .i64 0]] 8 rfl (World.shaped_of_RefB (by kernel_rfl) (by kernel_rfl)) (by kernel_rfl) (by kernel_rfl) (by kernel_rfl) (door_met os _)) ?_
  intro W base args ds gs before hval hW _ hw _ _
  refine law_contract (P := Tryd.prog) (fn := Tryd.f5) (tb := 4) pS_ok ?_ Tryd.laidOut (by kernel_rfl) (by kernel_rfl) rfl ?_ hval hW hw (fun xs h _ => says_args h) Tryd.func5 (by kernel_rfl) (of_decide_eq_true (by kernel_rfl))
  · intro t ht
    rw [Tryd.params5] at ht
    have : ∀ t ∈ ([45] : List TypeId), (pS.contains t && (Tryd.prog.readableRec t && decide (t < Tryd.prog.types.size))) = true := List.all_eq_true.1 (by kernel_rfl)
    have := this t ht
    simp only [Bool.and_eq_true, decide_eq_true_eq] at this
    exact ⟨this.1, this.2.1, this.2.2⟩
  · intro ds hds
    have hp : Tryd.f5.params.size = 1 := by kernel_rfl
    rw [hp] at hds
    match ds, hds with
    | [d1], _ => rfl

theorem says_said : Rows.FormatSaysSaid :=
  OpenClaim.holds_of_wide 5 Tryd.f5 rfl rfl rfl rfl rfl rfl rfl ⟨rfl, rfl, rfl, rfl, rfl⟩ rfl rfl rfl rfl rfl (by kernel_rfl) Tryd.func5 (by kernel_rfl)
    (of_decide_eq_true (by kernel_rfl)) (by unfold Func.isWrapper; first | (rw [if_pos (by decide +kernel)]; kernel_rfl) | (rw [if_neg (by decide +kernel)]; exact ⟨rfl, rfl⟩))
    (fun os started H enc _ => lifted os started H enc)
#print axioms says_said
end Go.Proofs.YtpkphcmnknjbeaaDoor

set_option maxRecDepth 100000
namespace Go.Proofs.YtpkphcmnknjbeaaDoor
open Go

/-- THE TIED CARD OF 'serinettelaw02.FormatSays'. -/
theorem says_card : Rows.FormatSaysCardSaid :=
  Claim7.holds_tied_plain_at .later [] [.data, .data, .data] true (true, "672aff10940fbc8a22f5185dd35006c44d3abf19806b7a1dad44a5713e7c29bc") false
    says_said (fun _ h => by cases h) (by kernel_rfl) (fun _ h => by cases h) formatSays_row_tie rfl ⟨rfl, rfl⟩ (by kernel_rfl) rfl
    (fun f fn hf hfn => by
      obtain rfl : f = 5 := Option.some.inj ((show Tryd.prog.funcNamed "serinette/serinettelaw02.FormatSays" = some 5 by kernel_rfl).symm.trans hf) |>.symm
      obtain rfl : fn = Tryd.f5 := (Option.some.inj (Tryd.func5.symm.trans hfn)).symm
      exact ⟨by kernel_rfl, fun j t ht => by
        rw [Tryd.params5] at ht
        have hm : t ∈ [45] := by simpa using Array.mem_of_getElem? ht
        have hall : ([45].all fun u => !Tryd.prog.wantsStandIn u) = true := by kernel_rfl
        exact (show Tryd.prog.wantsStandIn t = false by simpa using List.all_eq_true.1 hall t hm)⟩)
    (by kernel_rfl)
#print axioms says_card
end Go.Proofs.YtpkphcmnknjbeaaDoor
