/- Names for the comparisons in printed equations, the sealed gate, and which slots live at the joins of the law's functions. Conditions: none. -/
import Derived.Test.YtegnaiffnkklpaaDoorVC
import Derived.Test.YtegnaiffnkklpaaDoorProg
namespace Go.V
def lookN {α : Type} : List (Nat × α) → Nat → Option α
  | [], _ => none
  | (k, v) :: r, n => bif Nat.beq k n then some v else lookN r n
def ltI (a b : Int) : Bool := decide (a < b)
def leI (a b : Int) : Bool := decide (a ≤ b)
def eqI (a b : Int) : Bool := decide (a = b)
def leN (a b : Nat) : Bool := decide (a ≤ b)
/-- A slot that holds nothing known. -/
abbrev dd : AV := AV.dead
/-- The open gate, sealed: nothing unfolds it, so that a join stays a join. -/
theorem gate_ex : ∃ g : Gate, g = gate0 := ⟨_, rfl⟩
noncomputable def gate1 : Gate := Classical.choose gate_ex
theorem gate1_eq : gate1 = gate0 := Classical.choose_spec gate_ex
theorem gate1_app (id : Nat) (body : St → (St → R) → R) (st : St) (K : St → R) : gate1 id body st K = body st K := by rw [gate1_eq]; rfl
theorem evStep_eq (P : Program) (H : FuncId → Nat → Option (List Nat)) (call : CallF) (k : Nat) (f : FuncId) (az : List AO) : evStep P H call k f az = evStepG P H gate1 call k f az := by rw [gate1_eq]; rfl
theorem ltI_t {a b : Int} (h : a < b) : ltI a b = true := decide_eq_true h
theorem ltI_f {a b : Int} (h : b ≤ a) : ltI a b = false := decide_eq_false (by omega)
theorem leI_t {a b : Int} (h : a ≤ b) : leI a b = true := decide_eq_true h
theorem leI_f {a b : Int} (h : b < a) : leI a b = false := decide_eq_false (by omega)
theorem eqI_t {a b : Int} (h : a = b) : eqI a b = true := decide_eq_true h
theorem eqI_f {a b : Int} (h : a ≠ b) : eqI a b = false := decide_eq_false h
theorem leN_t {a b : Nat} (h : a ≤ b) : leN a b = true := decide_eq_true h
theorem leN_f {a b : Nat} (h : b < a) : leN a b = false := decide_eq_false (by omega)
end Go.V

set_option maxRecDepth 100000
set_option linter.unusedVariables false
namespace Go.V
open Go.Proofs
def hints : List (Nat × List (Nat × List Nat)) := [(4, [(100006, [3, 9, 23]), (100009, [3, 10, 11, 42]), (100005, [3, 9, 23, 37])]), (5, [(100006, [1]), (100013, [1]), (100018, []), (100010, [1, 9, 10, 11, 12, 13]), (100002, [1, 5, 6, 7, 8])]), (14, [(100003, [0, 2]), (100015, [2]), (4, [0, 2, 4]), (100006, [0, 2, 4, 15]), (100005, [0, 2, 4, 15]), (7, [0, 2, 4, 5]), (100009, [0, 2, 4, 5, 15, 21]), (100008, [0, 2, 4, 5, 15, 21]), (10, [0, 2, 4, 5, 6]), (100012, [0, 2, 4, 5, 6, 15, 21, 25]), (100011, [0, 2, 4, 5, 6, 15, 21, 25]), (100014, [0, 2, 4, 5, 6, 7, 15, 21, 25, 37])]), (15, [(100003, [1])]), (16, [(100003, [1])]), (17, [(100003, [1]), (100006, [1]), (100007, [1, 4, 70]), (100005, [1, 3, 33]), (100002, [1, 17])]), (31, [(100004, [2, 6, 7]), (100009, [2, 6, 7]), (100014, [6, 7])])]
def H0 : FuncId → Nat → Option (List Nat) := fun f r => match lookN hints f with | some l => lookN l r | none => none
end Go.V
