/- Names for the comparisons in printed equations, and the sealed gate. Conditions: none. -/
import Derived.Test.YtcdkljinnmphjaaVC
namespace Go.V
def lookN {α : Type} : List (Nat × α) → Nat → Option α
  | [], _ => none
  | (k, v) :: r, n => bif Nat.beq k n then some v else lookN r n
def ltI (a b : Int) : Bool := decide (a < b)
def leI (a b : Int) : Bool := decide (a ≤ b)
def eqI (a b : Int) : Bool := decide (a = b)
def leN (a b : Nat) : Bool := decide (a ≤ b)
/-- A slot that holds nothing known. -/
abbrev dd : AV := AV.dead
/-- The open gate, sealed: nothing unfolds it, so that a join stays a join. -/
theorem gate_ex : ∃ g : Gate, g = gate0 := ⟨_, rfl⟩
noncomputable def gate1 : Gate := Classical.choose gate_ex
theorem gate1_eq : gate1 = gate0 := Classical.choose_spec gate_ex
theorem gate1_app (id : Nat) (body : St → (St → R) → R) (st : St) (K : St → R) : gate1 id body st K = body st K := by rw [gate1_eq]; rfl
theorem evStep_eq (P : Program) (H : FuncId → Nat → Option (List Nat)) (call : CallF) (k : Nat) (f : FuncId) (az : List AO) : evStep P H call k f az = evStepG P H gate1 call k f az := by rw [gate1_eq]; rfl
theorem ltI_t {a b : Int} (h : a < b) : ltI a b = true := decide_eq_true h
theorem ltI_f {a b : Int} (h : b ≤ a) : ltI a b = false := decide_eq_false (by omega)
theorem leI_t {a b : Int} (h : a ≤ b) : leI a b = true := decide_eq_true h
theorem leI_f {a b : Int} (h : b < a) : leI a b = false := decide_eq_false (by omega)
theorem eqI_t {a b : Int} (h : a = b) : eqI a b = true := decide_eq_true h
theorem eqI_f {a b : Int} (h : a ≠ b) : eqI a b = false := decide_eq_false h
theorem leN_t {a b : Nat} (h : a ≤ b) : leN a b = true := decide_eq_true h
theorem leN_f {a b : Nat} (h : b < a) : leN a b = false := decide_eq_false (by omega)
end Go.V
