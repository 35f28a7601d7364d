/-
  NARROWER THAN 'FOR EVERY INPUT', by the rows' own cells (each row's printed sentence says how): BlockPlaces: loops · BlockBuilt: loops.
  DERIVED. THE GIVEN ROWS OF THIS SEAT. 2 by the template 'for every input the law returns true; each argument reads behind the call as it read before'; 0 by the template 'total and deterministic' (their statements: YtcdkljinnmphjaaTotals.lean).
  GIVEN WITH THE SEED: the statements are not yours to turn. If you find one false, say at which input.
  Laid BY PROGRAM, IN A SANDBOX (cutbox-rows.mjs): the forced cells as the released guide's own fill.sh prints them over the translation 9c1b69860ae65cba… (all of the seat's roots in one cut). By AI agents, Wed Nov 11 2026. No macro, syntax, notation, axiom, sorry.
-/
import Derived.Test.YtcdkljinnmphjaaChecked
import GoSem.Claim
import GoSem.ClaimJoined
import GoSem.ClaimMapViews
import Derived.JoinedTies
import Derived.KernelRfl
namespace Go.Proofs.Ytcdkljinnmphjaa
/- THE CELL 'sum', in the pinned program and in every row, IS THE sha256 OF THE DUMP (.gsa) THAT YtcdkljinnmphjaaProg.lean LOADS. Nothing in Lean hashes anything: it is a label: what it is worth is what the hold of that sum in a sandbox is worth. -/
noncomputable def Try.pinned : Pinned := { name := "ytcdkljinnmphjaa", sum := "9c1b69860ae65cbac92f8e6a7671cdd0676c8b34c78f62b0736066582205e440", checked := Try.checked }
namespace Rows
def none {H : Type} : Left H := { results := [], args := [] }

/-- 'serinettelaw05.BlockPlaces': WHATEVER THE INPUT: true; the input reads as it did. -/
def blockPlacesSpec : ChangeSpec := { name := "blockPlaces", fn := fun _ => fun
  | [d1, d2, d3] => { results := [.lit (.bool true)], args := [d1, d2, d3] }
  | _ => none }
def blockPlacesRow : OpenClaim := { program := "ytcdkljinnmphjaa", sum := "9c1b69860ae65cbac92f8e6a7671cdd0676c8b34c78f62b0736066582205e440", func := "serinette/serinettelaw05.BlockPlaces", spec := "blockPlaces", recurses := true, loops := true, apart := false }
def BlockPlacesSaid : Prop := blockPlacesRow.holds Try.pinned (OpenSpec.ofChange blockPlacesSpec)

/-- ITS FALSE NEIGHBOUR: 'it returns false'. Refute it at one input. -/
def blockPlacesWrong : ChangeSpec := { name := "blockPlaces", fn := fun _ => fun
  | [d1, d2, d3] => { results := [.lit (.bool false)], args := [d1, d2, d3] }
  | _ => none }
def BlockPlacesWrongFalsely : Prop := blockPlacesRow.holds Try.pinned (OpenSpec.ofChange blockPlacesWrong)

/-- 'serinettelaw05.BlockBuilt': WHATEVER THE INPUT: true; the input reads as it did. -/
def blockBuiltSpec : ChangeSpec := { name := "blockBuilt", fn := fun _ => fun
  | [d1, d2, d3, d4] => { results := [.lit (.bool true)], args := [d1, d2, d3, d4] }
  | _ => none }
def blockBuiltRow : OpenClaim := { program := "ytcdkljinnmphjaa", sum := "9c1b69860ae65cbac92f8e6a7671cdd0676c8b34c78f62b0736066582205e440", func := "serinette/serinettelaw05.BlockBuilt", spec := "blockBuilt", recurses := true, loops := true, apart := false }
def BlockBuiltSaid : Prop := blockBuiltRow.holds Try.pinned (OpenSpec.ofChange blockBuiltSpec)

/-- ITS FALSE NEIGHBOUR: 'it returns false'. Refute it at one input. -/
def blockBuiltWrong : ChangeSpec := { name := "blockBuilt", fn := fun _ => fun
  | [d1, d2, d3, d4] => { results := [.lit (.bool false)], args := [d1, d2, d3, d4] }
  | _ => none }
def BlockBuiltWrongFalsely : Prop := blockBuiltRow.holds Try.pinned (OpenSpec.ofChange blockBuiltWrong)

/- THE SECOND FORM. 'bulk': how many values and letters a reading holds, each counted each time it is reached (what is shared counts as often as it is met; a slice's spare places count too). A statement '..UptoSaid' is the law's where the arguments, and the package variables that the reading takes, are together of bulk at most 1048576: NARROWER than '..Said'. Prove '..Said' where nothing that the law and all that it calls make is longer than what came in: it says more and counts as full. Else prove '..UptoSaid'. A law counts once. -/
mutual
def uptoBulk {H : Type} : DataW H → Nat
  | .lit (.string bytes) => bytes.length + 1
  | .lit _ => 1
  | .nil => 1
  | .ptr d => uptoBulk d + 1
  | .slice elems spare => uptoBulkAll elems + uptoBulkAll spare + 1
  | .agg parts => uptoBulkAll parts + 1
  | .iface _ d => uptoBulk d + 1
  | .map entries => uptoBulkEntries entries + 1
  | .held _ => 1
def uptoBulkAll {H : Type} : List (DataW H) → Nat
  | [] => 0
  | d :: r => uptoBulk d + uptoBulkAll r
def uptoBulkEntries {H : Type} : List (Lit × DataW H) → Nat
  | [] => 0
  | x :: r => uptoBulkEntry x + uptoBulkEntries r
def uptoBulkEntry {H : Type} : Lit × DataW H → Nat
  | (.string bytes, d) => bytes.length + uptoBulk d + 1
  | (_, d) => uptoBulk d + 1
 end
def uptoSmall : (H : Type) → List (DataW H) → Bool := fun _ ds => decide (uptoBulkAll ds ≤ 1048576)
def OpenSpec.upto (s : _root_.Go.ChangeSpec) : _root_.Go.OpenSpec := { _root_.Go.OpenSpec.ofChange s with cond := some uptoSmall }

/-- 'serinettelaw05.BlockPlaces', WHERE WHAT IT READS IS OF BULK AT MOST 1048576: true; the input reads as it did. -/
def blockPlacesUptoRow : OpenClaim := { program := "ytcdkljinnmphjaa", sum := "9c1b69860ae65cbac92f8e6a7671cdd0676c8b34c78f62b0736066582205e440", func := "serinette/serinettelaw05.BlockPlaces", spec := "blockPlaces", recurses := true, loops := true, apart := false, narrowed := true }
def BlockPlacesUptoSaid : Prop := blockPlacesUptoRow.holds Try.pinned (OpenSpec.upto blockPlacesSpec)

/-- 'serinettelaw05.BlockBuilt', WHERE WHAT IT READS IS OF BULK AT MOST 1048576: true; the input reads as it did. -/
def blockBuiltUptoRow : OpenClaim := { program := "ytcdkljinnmphjaa", sum := "9c1b69860ae65cbac92f8e6a7671cdd0676c8b34c78f62b0736066582205e440", func := "serinette/serinettelaw05.BlockBuilt", spec := "blockBuilt", recurses := true, loops := true, apart := false, narrowed := true }
def BlockBuiltUptoSaid : Prop := blockBuiltUptoRow.holds Try.pinned (OpenSpec.upto blockBuiltSpec)

end Rows
end Go.Proofs.Ytcdkljinnmphjaa
