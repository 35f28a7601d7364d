/-
  NARROWER THAN 'FOR EVERY INPUT', by the rows' own cells (each row's printed sentence says how): PlanMade: loops · PlanOrdered: loops.
  DERIVED. THE GIVEN ROWS OF THIS SEAT. 2 by the template 'for every input the law returns true; each argument reads behind the call as it read before'; 0 by the template 'total and deterministic' (their statements: YtmgjhnjiljmmkaaTotals.lean).
  GIVEN WITH THE SEED: the statements are not yours to turn. If you find one false, say at which input.
  Laid BY PROGRAM, IN A SANDBOX (cutbox-rows.mjs): the forced cells as the released guide's own fill.sh prints them over the translation 86654d461aa6130c… (all of the seat's roots in one cut). By AI agents, Wed Nov 11 2026. No macro, syntax, notation, axiom, sorry.
-/
import Derived.Test.YtmgjhnjiljmmkaaChecked
import GoSem.Claim
import GoSem.ClaimJoined
import GoSem.ClaimMapViews
import Derived.JoinedTies
import Derived.KernelRfl
namespace Go.Proofs.Ytmgjhnjiljmmkaa
/- THE CELL 'sum', in the pinned program and in every row, IS THE sha256 OF THE DUMP (.gsa) THAT YtmgjhnjiljmmkaaProg.lean LOADS. Nothing in Lean hashes anything: it is a label: what it is worth is what the hold of that sum in a sandbox is worth. -/
noncomputable def Try.pinned : Pinned := { name := "ytmgjhnjiljmmkaa", sum := "86654d461aa6130ca0baf57f5067d6d030137f4a5c25d28c8b77b95a7e8f4a17", checked := Try.checked }
namespace Rows
def none {H : Type} : Left H := { results := [], args := [] }

/-- 'serinettelaw15.PlanMade': WHATEVER THE INPUT: true; the input reads as it did. -/
def planMadeSpec : ChangeSpec := { name := "planMade", fn := fun _ => fun
  | [d1, d2, d3] => { results := [.lit (.bool true)], args := [d1, d2, d3] }
  | _ => none }
def planMadeRow : OpenClaim := { program := "ytmgjhnjiljmmkaa", sum := "86654d461aa6130ca0baf57f5067d6d030137f4a5c25d28c8b77b95a7e8f4a17", func := "serinette/serinettelaw15.PlanMade", spec := "planMade", unfollowed := true, recurses := true, loops := true, apart := false }
def PlanMadeSaid : Prop := planMadeRow.holds Try.pinned (OpenSpec.ofChange planMadeSpec)

/-- ITS FALSE NEIGHBOUR: 'it returns false'. Refute it at one input. -/
def planMadeWrong : ChangeSpec := { name := "planMade", fn := fun _ => fun
  | [d1, d2, d3] => { results := [.lit (.bool false)], args := [d1, d2, d3] }
  | _ => none }
def PlanMadeWrongFalsely : Prop := planMadeRow.holds Try.pinned (OpenSpec.ofChange planMadeWrong)

/-- 'serinettelaw15.PlanOrdered': WHATEVER THE INPUT: true; the input reads as it did. -/
def planOrderedSpec : ChangeSpec := { name := "planOrdered", fn := fun _ => fun
  | [d1, d2, d3] => { results := [.lit (.bool true)], args := [d1, d2, d3] }
  | _ => none }
def planOrderedRow : OpenClaim := { program := "ytmgjhnjiljmmkaa", sum := "86654d461aa6130ca0baf57f5067d6d030137f4a5c25d28c8b77b95a7e8f4a17", func := "serinette/serinettelaw15.PlanOrdered", spec := "planOrdered", unfollowed := true, recurses := true, loops := true, apart := false }
def PlanOrderedSaid : Prop := planOrderedRow.holds Try.pinned (OpenSpec.ofChange planOrderedSpec)

/-- ITS FALSE NEIGHBOUR: 'it returns false'. Refute it at one input. -/
def planOrderedWrong : ChangeSpec := { name := "planOrdered", fn := fun _ => fun
  | [d1, d2, d3] => { results := [.lit (.bool false)], args := [d1, d2, d3] }
  | _ => none }
def PlanOrderedWrongFalsely : Prop := planOrderedRow.holds Try.pinned (OpenSpec.ofChange planOrderedWrong)

/- THE SECOND FORM. 'bulk': how many values and letters a reading holds, each counted each time it is reached (what is shared counts as often as it is met; a slice's spare places count too). A statement '..UptoSaid' is the law's where the arguments, and the package variables that the reading takes, are together of bulk at most 1048576: NARROWER than '..Said'. Prove '..Said' where nothing that the law and all that it calls make is longer than what came in: it says more and counts as full. Else prove '..UptoSaid'. A law counts once. -/
mutual
def uptoBulk {H : Type} : DataW H → Nat
  | .lit (.string bytes) => bytes.length + 1
  | .lit _ => 1
  | .nil => 1
  | .ptr d => uptoBulk d + 1
  | .slice elems spare => uptoBulkAll elems + uptoBulkAll spare + 1
  | .agg parts => uptoBulkAll parts + 1
  | .iface _ d => uptoBulk d + 1
  | .map entries => uptoBulkEntries entries + 1
  | .held _ => 1
def uptoBulkAll {H : Type} : List (DataW H) → Nat
  | [] => 0
  | d :: r => uptoBulk d + uptoBulkAll r
def uptoBulkEntries {H : Type} : List (Lit × DataW H) → Nat
  | [] => 0
  | x :: r => uptoBulkEntry x + uptoBulkEntries r
def uptoBulkEntry {H : Type} : Lit × DataW H → Nat
  | (.string bytes, d) => bytes.length + uptoBulk d + 1
  | (_, d) => uptoBulk d + 1
 end
def uptoSmall : (H : Type) → List (DataW H) → Bool := fun _ ds => decide (uptoBulkAll ds ≤ 1048576)
def OpenSpec.upto (s : _root_.Go.ChangeSpec) : _root_.Go.OpenSpec := { _root_.Go.OpenSpec.ofChange s with cond := some uptoSmall }

/-- 'serinettelaw15.PlanMade', WHERE WHAT IT READS IS OF BULK AT MOST 1048576: true; the input reads as it did. -/
def planMadeUptoRow : OpenClaim := { program := "ytmgjhnjiljmmkaa", sum := "86654d461aa6130ca0baf57f5067d6d030137f4a5c25d28c8b77b95a7e8f4a17", func := "serinette/serinettelaw15.PlanMade", spec := "planMade", unfollowed := true, recurses := true, loops := true, apart := false, narrowed := true }
def PlanMadeUptoSaid : Prop := planMadeUptoRow.holds Try.pinned (OpenSpec.upto planMadeSpec)

/-- 'serinettelaw15.PlanOrdered', WHERE WHAT IT READS IS OF BULK AT MOST 1048576: true; the input reads as it did. -/
def planOrderedUptoRow : OpenClaim := { program := "ytmgjhnjiljmmkaa", sum := "86654d461aa6130ca0baf57f5067d6d030137f4a5c25d28c8b77b95a7e8f4a17", func := "serinette/serinettelaw15.PlanOrdered", spec := "planOrdered", unfollowed := true, recurses := true, loops := true, apart := false, narrowed := true }
def PlanOrderedUptoSaid : Prop := planOrderedUptoRow.holds Try.pinned (OpenSpec.upto planOrderedSpec)

end Rows
end Go.Proofs.Ytmgjhnjiljmmkaa
