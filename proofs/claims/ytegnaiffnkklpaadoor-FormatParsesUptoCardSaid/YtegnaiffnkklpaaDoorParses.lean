/- FormatParses: whatever the input of bulk at most 1048576, the law answers true and leaves its input as it was; the tied card. Conditions: none beyond the row's and the card's own. -/
import Derived.Test.YtegnaiffnkklpaaDoorVR
import Derived.Test.YtegnaiffnkklpaaDoorRows
import Derived.ProofKit
import Derived.LaidMore
import Derived.Lay
import Derived.MakeChecks
import Derived.LaidSub
import Derived.Shelf.Vars
import Derived.Deep.DeepHandedRow
import Derived.Test.YtegnaiffnkklpaaDoorCards
import Derived.Test.YtegnaiffnkklpaaDoorTie
import Derived.SevenTiedAt
set_option linter.unusedSimpArgs false
set_option linter.unusedVariables false
set_option maxRecDepth 100000
namespace Go.Proofs.YtegnaiffnkklpaaDoor
open Go.ChangeShapes Go.WideShapes Go.ChangeAt Go.RowKit Go.V

def pS : List TypeId := [9, 23, 3]
theorem pS_all : pS.all (plainTy Tryd.prog pS) = true := by kernel_rfl
theorem pS_ok : ∀ t, pS.contains t = true → plainTy Tryd.prog pS t = true := fun t ht => List.all_eq_true.1 pS_all t (List.contains_iff_mem.1 ht)

theorem Tryd.own : ownKnob Tryd.prog.godebug = none := by kernel_rfl
theorem Tryd.laidOut : laidOutB Tryd.prog = true := by kernel_rfl
theorem t9 : tyOf Tryd.prog 9 = .str := by kernel_rfl
theorem t23 : tyOf Tryd.prog 23 = .st 23 := by kernel_rfl
theorem c23 : cellTys Tryd.prog deep 23 = [.str, .int .i64, .int .i64, .str, .str] := by kernel_rfl

theorem WT.str_inv {P : Program} {x : PV} (h : WT P .str x) : ∃ s, x = .str s := by cases h; exact ⟨_, rfl⟩
theorem WT.int_inv {P : Program} {x : PV} {k : IntKind} (h : WT P (.int k) x) : ∃ n, x = .int k n ∧ (Lit.int k n).wf = true := by cases h with | int _ n h => exact ⟨n, rfl, h⟩
theorem WT.st_inv {P : Program} {x : PV} {t : TypeId} (h : WT P (.st t) x) : ∃ xs, x = .agg xs ∧ xs.length = (cellTys P deep t).length ∧ ∀ (i : Nat) (ty : Ty) (x : PV), (cellTys P deep t)[i]? = some ty → xs[i]? = some x → WT P ty x := by
  cases h with | st _ xs hx h => exact ⟨xs, rfl, hx, h⟩

theorem fmt_of {x : PV} (h : WT Tryd.prog (.st 23) x) : ∃ f : Fmt, x = f.pv := by
  obtain ⟨xs, rfl, hl, hc⟩ := WT.st_inv h
  rw [c23] at hl hc
  match xs, hl with
  | [a, b, c, d, e], _ =>
    obtain ⟨kind, rfl⟩ := WT.str_inv (hc 0 _ a rfl rfl)
    obtain ⟨I, rfl, _⟩ := WT.int_inv (hc 1 _ b rfl rfl)
    obtain ⟨F, rfl, _⟩ := WT.int_inv (hc 2 _ c rfl rfl)
    obtain ⟨round, rfl⟩ := WT.str_inv (hc 3 _ d rfl rfl)
    obtain ⟨over, rfl⟩ := WT.str_inv (hc 4 _ e rfl rfl)
    exact ⟨⟨kind, I, F, round, over⟩, rfl⟩

theorem law_args {xs : List PV} (h : WTs Tryd.prog Tryd.f4.params.toList xs) (hz : szs xs ≤ 1048576) : ∃ call, CallOk Tryd.prog call ∧ call 4 (mkArgs Tryd.prog Tryd.f4.params.toList xs) = some ([.pv .bool (.bool true)], []) := by
  rw [Tryd.params4] at h ⊢
  match xs, h with
  | [x0, x1], ⟨h0, h1, _⟩ =>
    rw [t9] at h0
    rw [t23] at h1
    obtain ⟨s, rfl⟩ := WT.str_inv h0
    obtain ⟨f, rfl⟩ := fmt_of h1
    simp only [szs, PV.sz] at hz
    obtain ⟨K, hK⟩ := law4 (s := s) (by omega) f
    refine ⟨EG qP K, evG_sound _ _ base_ok K, ?_⟩
    have := hK K (Nat.le_refl _)
    simp only [mkArgs, t9, t23]
    exact this

mutual
theorem bulk_eq {H : Type} : ∀ d : DataW H, bulk d = Rows.uptoBulk d
  | .lit (.string b) => by simp only [bulk, Rows.uptoBulk]
  | .lit (.bool _) => by simp only [bulk, Rows.uptoBulk]
  | .lit (.int _ _) => by simp only [bulk, Rows.uptoBulk]
  | .lit (.float _ _) => by simp only [bulk, Rows.uptoBulk]
  | .lit .nil => by simp only [bulk, Rows.uptoBulk]
  | .nil => by simp only [bulk, Rows.uptoBulk]
  | .ptr d => by simp only [bulk, Rows.uptoBulk, bulk_eq d]
  | .slice a b => by simp only [bulk, Rows.uptoBulk, bulks_eq a, bulks_eq b]
  | .agg a => by simp only [bulk, Rows.uptoBulk, bulks_eq a]
  | .iface _ d => by simp only [bulk, Rows.uptoBulk, bulk_eq d]
  | .map es => by simp only [bulk, Rows.uptoBulk, bulkEs_eq es]
  | .held _ => by simp only [bulk, Rows.uptoBulk]
theorem bulks_eq {H : Type} : ∀ l : List (DataW H), bulks l = Rows.uptoBulkAll l
  | [] => by simp only [bulks, Rows.uptoBulkAll]
  | d :: r => by simp only [bulks, Rows.uptoBulkAll, bulk_eq d, bulks_eq r]
theorem bulkEs_eq {H : Type} : ∀ l : List (Lit × DataW H), bulkEs l = Rows.uptoBulkEntries l
  | [] => by simp only [bulkEs, Rows.uptoBulkEntries]
  | x :: r => by simp only [bulkEs, Rows.uptoBulkEntries, bulkE_eq x, bulkEs_eq r]
theorem bulkE_eq {H : Type} : ∀ x : Lit × DataW H, bulkE x = Rows.uptoBulkEntry x
  | (.string b, d) => by simp only [bulkE, Rows.uptoBulkEntry, bulk_eq d]
  | (.bool _, d) => by simp only [bulkE, Rows.uptoBulkEntry, bulk_eq d]
  | (.int _ _, d) => by simp only [bulkE, Rows.uptoBulkEntry, bulk_eq d]
  | (.float _ _, d) => by simp only [bulkE, Rows.uptoBulkEntry, bulk_eq d]
  | (.nil, d) => by simp only [bulkE, Rows.uptoBulkEntry, bulk_eq d]
end

theorem uptoBulkAll_le {H : Type} : ∀ a b : List (DataW H), Rows.uptoBulkAll a ≤ Rows.uptoBulkAll (a ++ b)
  | [], b => by simp only [Rows.uptoBulkAll]; exact Nat.zero_le _
  | d :: r, b => by simp only [List.cons_append, Rows.uptoBulkAll]; have := uptoBulkAll_le r b; omega

abbrev laid3 : List (String × DataW Unit) := Rows.formatParsesUptoRow.laid

/-- The heap in which the listed variables are laid meets the condition. -/
theorem door_met (os : Os) (args : Array Value) : laidMetH Tryd.prog laid3 ((World.laidAll Tryd.prog os laid3).forCall (fun _ _ => 0) ⟨#[], args, []⟩).memory := by
  rw [MakeChecks.laidMetH_plain _ _ _ (by kernel_rfl)]
  exact laidMet_laidAll _ (by kernel_rfl) (by kernel_rfl)

theorem iface_of_trod {H : Type} {enc : TypeId × Value → H} {w : World} {base : Nat} {sp : Nat → Bool} {t : TypeId} {ms : _} (ht : Tryd.prog.underlying t = some (.interface ms)) {fuel : Nat} {cs : List Value} {x : DataW H × List MemPlace}
    (h : DataW.trod enc Tryd.prog w base sp false fuel t cs = some x) : ∃ v, cs = [v] ∧ (v = .nilIface ∨ ∃ u p, v = .iface u p) := by
  cases fuel with
  | zero => cases h
  | succ n =>
    simp only [DataW.trod, ht] at h
    split at h
    all_goals first | exact ⟨_, rfl, .inl rfl⟩ | exact ⟨_, rfl, .inr ⟨_, _, rfl⟩⟩ | exact absurd ‹some (TypeDesc.interface ms) = some _› (by simp) | (cases h; done)

theorem err_var {W : World} (n : String) (d : DataW Unit) (g : Nat) (hl : laidMetH Tryd.prog laid3 W)
    (he : (laid3.filter fun x => x.2.handleName?.isNone).filter (fun x => x.1 == n) = [(n, d)]) (hg : Tryd.prog.globalNamed n = some g) {ms : _} {t : TypeId} (ht : (Tryd.prog.globals[g]?).map (·.type) = some t) (hu : Tryd.prog.underlying t = some (.interface ms)) :
    ∃ v, W.cell? ⟨g, 0, none⟩ = some v ∧ (v = .nilIface ∨ ∃ u p, v = .iface u p) := by
  obtain ⟨h1, _⟩ := laidMetH_iff.1 hl
  have h2 := h1.filter (fun x => x.1 == n)
  rw [he] at h2
  obtain ⟨ps, ⟨g', t', cs, fuel, p, q, e1, e2, e3, e4, _⟩, _⟩ := h2
  obtain rfl := Option.some.inj (hg.symm.trans e1)
  obtain rfl := Option.some.inj (ht.symm.trans e2)
  obtain ⟨v, hv, hv2⟩ := iface_of_trod hu e4
  refine ⟨v, ?_, hv2⟩
  rw [World.var?_cell hg e3 0]
  have : cs = #[v] := Array.toList_inj.1 (by rw [hv])
  rw [this]; rfl

theorem vars_ok {W : World} (hl : laidMetH Tryd.prog laid3 W) (hsh : W.ShapedOpen Tryd.prog) : VarsOk Tryd.prog W gFree := by
  have h0 : ∃ m, W.cell? ⟨0, 0, none⟩ = some (.int .i64 m) :=
    Go.Proofs.cell_of_shapedOpen_int (zero := #[.int .i64 0]) (t := 3) hsh (of_decide_eq_true (by kernel_rfl)) (by kernel_rfl) rfl (by kernel_rfl) (by kernel_rfl) Tryd.underlying3
  have h1 := err_var (W := W) "strconv.ErrSyntax" Rows.laid_strconv_ErrSyntax 1 hl (by kernel_rfl) (by kernel_rfl) (t := 60) (by kernel_rfl) Tryd.underlying60
  have h2 := err_var (W := W) "strconv.ErrRange" Rows.laid_strconv_ErrRange 2 hl (by kernel_rfl) (by kernel_rfl) (t := 60) (by kernel_rfl) Tryd.underlying60
  intro n v hn hv
  have hn' : n = "internal/bytealg.MaxLen" ∨ n = "strconv.ErrSyntax" ∨ n = "strconv.ErrRange" := by
    rcases hn with _ | ⟨_, _ | ⟨_, _ | ⟨_, hn⟩⟩⟩
    · exact .inl rfl
    · exact .inr (.inl rfl)
    · exact .inr (.inr rfl)
    · cases hn
  rcases hn' with rfl | rfl | rfl
  · obtain rfl : 0 = v := Option.some.inj ((show Tryd.prog.globalNamed "internal/bytealg.MaxLen" = some 0 by kernel_rfl).symm.trans hv)
    obtain ⟨m, hm⟩ := h0
    refine ⟨rfl, World.block_lt_of_cell? _ _ hm, ?_⟩
    unfold varIs
    rw [if_pos rfl]
    exact ⟨m, hm⟩
  · obtain rfl : 1 = v := Option.some.inj ((show Tryd.prog.globalNamed "strconv.ErrSyntax" = some 1 by kernel_rfl).symm.trans hv)
    obtain ⟨m, hm, hm2⟩ := h1
    refine ⟨rfl, World.block_lt_of_cell? _ _ hm, ?_⟩
    unfold varIs
    rw [if_neg (by decide)]
    exact ⟨m, hm, hm2⟩
  · obtain rfl : 2 = v := Option.some.inj ((show Tryd.prog.globalNamed "strconv.ErrRange" = some 2 by kernel_rfl).symm.trans hv)
    obtain ⟨m, hm, hm2⟩ := h2
    refine ⟨rfl, World.block_lt_of_cell? _ _ hm, ?_⟩
    unfold varIs
    rw [if_neg (by decide)]
    exact ⟨m, hm, hm2⟩

abbrev uS : OpenSpec := Rows.OpenSpec.upto Rows.formatParsesSpec
abbrev args0 : Array Value := #[.string ⟨#[]⟩, .agg #[.string ⟨#[]⟩, .int .i64 0, .int .i64 0, .string ⟨#[]⟩, .string ⟨#[]⟩]]

theorem witness_row (os : Os) {H : Type} (enc : TypeId × Value → H) :
    uS.preRow enc Tryd.prog Tryd.f4 [] false laid3 ((World.laidAll Tryd.prog os laid3).forCall (fun _ _ => 0) ⟨#[], args0, []⟩).memory args0 := by
  have hw : (DataW.whole enc Tryd.prog ((World.laidAll Tryd.prog os laid3).forCall (fun _ _ => 0) ⟨#[], args0, []⟩).memory Tryd.f4.params.toList uS.vars false args0.toList 8).map (fun x => (x.1, x.2.1)) =
      some ([.lit (.string []), .agg [.lit (.string []), .lit (.int .i64 0), .lit (.int .i64 0), .lit (.string []), .lit (.string [])]], []) := by kernel_rfl
  obtain ⟨⟨x1, x2, x3⟩, hx, hx1⟩ := Option.map_eq_some_iff.1 hw
  simp only [Prod.mk.injEq] at hx1
  obtain ⟨rfl, rfl⟩ := hx1
  exact OpenSpec.preRow_of_cond 8 hx (by kernel_rfl) (fun k hk => by cases hk; rfl) (by kernel_rfl) (door_met os _)

theorem lifted (os : Os) (started : os.Started) (H : Type) (enc : TypeId × Value → H) (F : Stop.Interp) :
    ReturnsInHanded {} Tryd.checked os 4 .any (uS.preRow enc Tryd.prog Tryd.f4 [] false laid3) ((uS.at F).post enc Tryd.prog Tryd.f4 Rows.formatParsesUptoRow.apart Rows.formatParsesUptoRow.fresh Rows.formatParsesUptoRow.handsOn Rows.formatParsesUptoRow.again) := by
  refine returnsInHanded_of_row (C := Tryd.checked) (s := uS) Tryd.own started (by kernel_rfl) Tryd.func4 ?_ ?_
  · have hok : Input.okWideB Tryd.prog ((World.laidAll Tryd.prog os laid3).forCall (fun _ _ => 0) ⟨#[], args0, []⟩) 4 ⟨#[], args0, []⟩ = true := by kernel_rfl
    exact ⟨World.laidAll Tryd.prog os laid3, fun _ _ => 0, ⟨#[], args0, []⟩, World.laidAll_os _ _ _, World.shaped_of_ZipB (by kernel_rfl) (by kernel_rfl), (Input.okWide_of_okWideB (base := 0) hok).1, (Input.okWide_of_okWideB hok).2, witness_row os enc, by
      simp only [Assume.holds]
      exact ⟨by simp, by simp, fun _ => Modest.zero, by simp, by simp⟩⟩
  intro W base args ds gs before hval hW _ hcond hw hl hsh _
  have hz : Rows.uptoBulkAll (ds ++ gs) ≤ 1048576 := of_decide_eq_true (hcond _ rfl)
  have hz' := uptoBulkAll_le ds gs
  refine law_contract (P := Tryd.prog) (s := uS.at F) (fn := Tryd.f4) (tb := 4) pS_ok ?_ Tryd.laidOut (by kernel_rfl) (by kernel_rfl) rfl ?_ hval hW hw (fun xs h hs => law_args h (by rw [bulks_eq] at hs; omega)) Tryd.func4 (by kernel_rfl) (of_decide_eq_true (by kernel_rfl)) (vars_ok hl hsh)
  · intro t ht
    rw [Tryd.params4] at ht
    have : ∀ t ∈ ([9, 23] : List TypeId), (pS.contains t && (Tryd.prog.readableRec t && decide (t < Tryd.prog.types.size))) = true := List.all_eq_true.1 (by kernel_rfl)
    have := this t ht
    simp only [Bool.and_eq_true, decide_eq_true_eq] at this
    exact ⟨this.1, this.2.1, this.2.2⟩
  · intro ds hds
    have hp : Tryd.f4.params.size = 2 := by kernel_rfl
    rw [hp] at hds
    match ds, hds with
    | [d1, d2], _ => rfl

theorem parses_said : Rows.FormatParsesUptoSaid :=
  OpenClaim.holds_of_cond 4 Tryd.f4 rfl rfl rfl rfl rfl rfl rfl ⟨rfl, rfl, rfl, rfl, rfl⟩ rfl rfl rfl rfl rfl (by kernel_rfl) Tryd.func4 (by kernel_rfl)
    (of_decide_eq_true (by kernel_rfl)) (by unfold Func.isWrapper; first | (rw [if_pos (by decide +kernel)]; kernel_rfl) | (rw [if_neg (by decide +kernel)]; exact ⟨rfl, rfl⟩))
    (fun os started H enc _ F => by rw [OpenClaim.pre_eq_preRow]; exact lifted os started H enc F)
#print axioms parses_said
end Go.Proofs.YtegnaiffnkklpaaDoor

set_option maxRecDepth 100000
namespace Go.Proofs.YtegnaiffnkklpaaDoor
open Go

/-- THE TIED CARD OF 'serinettelaw02.FormatParses', where what it reads is of bulk at most 1048576. -/
theorem parses_card : Rows.FormatParsesUptoCardSaid :=
  Claim7.holds_tied_plain_at .later [] [.data, .data, .data, .data, .sentinel, .sentinel, .pinned] true (true, "b94ba8564ccf53fdcefb16da88d14bbbcbfbb9baa22bd2331e11ddb11ea69f26") true
    parses_said (fun _ h => by cases h) (by kernel_rfl) (fun _ h => by cases h) formatParsesUpto_row_tie rfl ⟨rfl, rfl⟩ (by kernel_rfl) rfl
    (fun f fn hf hfn => by
      obtain rfl : f = 4 := Option.some.inj ((show Tryd.prog.funcNamed "serinette/serinettelaw02.FormatParses" = some 4 by kernel_rfl).symm.trans hf) |>.symm
      obtain rfl : fn = Tryd.f4 := (Option.some.inj (Tryd.func4.symm.trans hfn)).symm
      exact ⟨by kernel_rfl, fun j t ht => by
        rw [Tryd.params4] at ht
        have hm : t ∈ [9, 23] := by simpa using Array.mem_of_getElem? ht
        have hall : ([9, 23].all fun u => !Tryd.prog.wantsStandIn u) = true := by kernel_rfl
        exact (show Tryd.prog.wantsStandIn t = false by simpa using List.all_eq_true.1 hall t hm)⟩)
    (by kernel_rfl)
#print axioms parses_card
end Go.Proofs.YtegnaiffnkklpaaDoor
