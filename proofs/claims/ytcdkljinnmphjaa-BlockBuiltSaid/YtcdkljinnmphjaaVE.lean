/- What the evaluator makes of the law's functions, each as an equation of its own with its calls left open. Conditions: none. -/
import Derived.Test.YtcdkljinnmphjaaVC
import Derived.Test.YtcdkljinnmphjaaProg
namespace Go.V
def lookN {α : Type} : List (Nat × α) → Nat → Option α
  | [], _ => none
  | (k, v) :: r, n => bif Nat.beq k n then some v else lookN r n
def ltI (a b : Int) : Bool := decide (a < b)
def leI (a b : Int) : Bool := decide (a ≤ b)
def eqI (a b : Int) : Bool := decide (a = b)
def leN (a b : Nat) : Bool := decide (a ≤ b)
theorem ltI_t {a b : Int} (h : a < b) : ltI a b = true := decide_eq_true h
theorem ltI_f {a b : Int} (h : b ≤ a) : ltI a b = false := decide_eq_false (by omega)
theorem leI_t {a b : Int} (h : a ≤ b) : leI a b = true := decide_eq_true h
theorem leI_f {a b : Int} (h : b < a) : leI a b = false := decide_eq_false (by omega)
theorem eqI_t {a b : Int} (h : a = b) : eqI a b = true := decide_eq_true h
theorem eqI_f {a b : Int} (h : a ≠ b) : eqI a b = false := decide_eq_false h
theorem leN_t {a b : Nat} (h : a ≤ b) : leN a b = true := decide_eq_true h
theorem leN_f {a b : Nat} (h : b < a) : leN a b = false := decide_eq_false (by omega)
end Go.V

set_option maxRecDepth 100000
set_option linter.unusedVariables false
namespace Go.V
open Go.Proofs
def hints : List (Nat × List (Nat × List Nat)) := [(4, [(12, [0, 3, 72, 73]), (15, [0, 3, 11, 72, 73, 77, 78]), (4, [0, 2, 3, 5, 22, 23, 24])]), (11, [(4, [2, 3, 5])]), (20, [(5, [2, 3, 15, 16])]), (21, [(5, [0, 2, 3, 4])]), (22, [(10, [2, 3, 80, 81]), (4, [2, 3, 60, 61])]), (25, [(3, [1, 3, 4])]), (26, [(4, [22, 23, 24])]), (28, [(3, [3, 7, 8, 9])]), (29, [(5, [2, 3, 13, 14, 15])]), (31, [(4, [0, 1, 5])]), (32, [(5, [0, 4, 5, 17, 18, 19])]), (33, [(5, [0, 1, 4, 5, 6])]), (47, [(5, [0, 1])]), (48, [(1, [0, 1])])]
def H0 : FuncId → Nat → Option (List Nat) := fun f r => match lookN hints f with | some l => lookN l r | none => none
def S4_15 (v0 : PV) (v1 : PV) (v2 : PV) (v3 : PV) (v4 : PV) (v5 : PV) (v6 : PV) : St := [AV.o (AO.pv Ty.str v0), AV.dead, AV.dead, AV.o (AO.pv (Ty.sl 27) v1), AV.dead, AV.dead, AV.dead, AV.dead, AV.dead, AV.dead, AV.dead, AV.o (AO.pv (Ty.int IntKind.i64) v2), AV.dead, AV.dead, AV.dead, AV.dead, AV.dead, AV.dead, AV.dead, AV.dead, AV.dead, AV.dead, AV.dead, AV.dead, AV.dead, AV.dead, AV.dead, AV.dead, AV.dead, AV.dead, AV.dead, AV.dead, AV.dead, AV.dead, AV.dead, AV.dead, AV.dead, AV.dead, AV.dead, AV.dead, AV.dead, AV.dead, AV.dead, AV.dead, AV.dead, AV.dead, AV.dead, AV.dead, AV.dead, AV.dead, AV.dead, AV.dead, AV.dead, AV.dead, AV.dead, AV.dead, AV.dead, AV.dead, AV.dead, AV.dead, AV.dead, AV.dead, AV.dead, AV.dead, AV.dead, AV.dead, AV.dead, AV.dead, AV.dead, AV.dead, AV.dead, AV.dead, AV.o (AO.pv (Ty.int IntKind.i64) v3), AV.o (AO.pv (Ty.int IntKind.i64) v4), AV.dead, AV.dead, AV.dead, AV.o (AO.pv (Ty.int IntKind.i64) v5), AV.o (AO.pv (Ty.int IntKind.i64) v6), AV.dead, AV.dead, AV.dead, AV.dead, AV.dead, AV.dead, AV.dead, AV.dead, AV.dead, AV.dead, AV.dead, AV.dead, AV.dead, AV.dead, AV.dead, AV.dead, AV.dead, AV.dead, AV.dead, AV.dead, AV.dead, AV.dead, AV.dead, AV.dead, AV.dead, AV.dead, AV.dead, AV.dead, AV.dead, AV.dead, AV.dead, AV.dead, AV.dead, AV.dead, AV.dead, AV.dead, AV.dead, AV.dead, AV.dead, AV.dead, AV.dead, AV.dead, AV.dead, AV.dead]
noncomputable def L4_15 (call : CallF) (k m1 n : Nat) (v0 : PV) (v1 : PV) (v2 : PV) (v3 : PV) (v4 : PV) (v5 : PV) (v6 : PV) : R := loopAt Try.prog H0 call k 4 [.b, .b, .b, .b, .a, .b, .blk, .lp m1, .b, .b, .a, .blk, .b, .a, .b, .blk] n (S4_15 v0 v1 v2 v3 v4 v5 v6) (behind Try.prog H0 call k 4 [.b, .b, .b, .b, .a, .b, .blk, .lp m1, .b, .b, .a, .blk, .b, .a, .b, .blk])
def S4_12 (v0 : PV) (v1 : PV) (v2 : PV) (v3 : PV) : St := [AV.o (AO.pv Ty.str v0), AV.dead, AV.dead, AV.o (AO.pv (Ty.sl 27) v1), AV.dead, AV.dead, AV.dead, AV.dead, AV.dead, AV.dead, AV.dead, AV.dead, AV.dead, AV.dead, AV.dead, AV.dead, AV.dead, AV.dead, AV.dead, AV.dead, AV.dead, AV.dead, AV.dead, AV.dead, AV.dead, AV.dead, AV.dead, AV.dead, AV.dead, AV.dead, AV.dead, AV.dead, AV.dead, AV.dead, AV.dead, AV.dead, AV.dead, AV.dead, AV.dead, AV.dead, AV.dead, AV.dead, AV.dead, AV.dead, AV.dead, AV.dead, AV.dead, AV.dead, AV.dead, AV.dead, AV.dead, AV.dead, AV.dead, AV.dead, AV.dead, AV.dead, AV.dead, AV.dead, AV.dead, AV.dead, AV.dead, AV.dead, AV.dead, AV.dead, AV.dead, AV.dead, AV.dead, AV.dead, AV.dead, AV.dead, AV.dead, AV.dead, AV.o (AO.pv (Ty.int IntKind.i64) v2), AV.o (AO.pv (Ty.int IntKind.i64) v3), AV.dead, AV.dead, AV.dead, AV.dead, AV.dead, AV.dead, AV.dead, AV.dead, AV.dead, AV.dead, AV.dead, AV.dead, AV.dead, AV.dead, AV.dead, AV.dead, AV.dead, AV.dead, AV.dead, AV.dead, AV.dead, AV.dead, AV.dead, AV.dead, AV.dead, AV.dead, AV.dead, AV.dead, AV.dead, AV.dead, AV.dead, AV.dead, AV.dead, AV.dead, AV.dead, AV.dead, AV.dead, AV.dead, AV.dead, AV.dead, AV.dead, AV.dead, AV.dead, AV.dead, AV.dead, AV.dead, AV.dead, AV.dead, AV.dead]
noncomputable def L4_12 (call : CallF) (k n : Nat) (v0 : PV) (v1 : PV) (v2 : PV) (v3 : PV) : R := loopAt Try.prog H0 call k 4 [.b, .b, .b, .b, .a, .b, .blk] n (S4_12 v0 v1 v2 v3) (behind Try.prog H0 call k 4 [.b, .b, .b, .b, .a, .b, .blk])
def S4_4 (v0 : PV) (v1 : PV) (v2 : PV) (v3 : PV) (v4 : PV) (v5 : PV) (v6 : PV) (v7 : PV) : St := [AV.o (AO.pv Ty.str v0), AV.dead, AV.o (AO.pv (Ty.int IntKind.i64) v1), AV.o (AO.pv (Ty.sl 27) v2), AV.dead, AV.o (AO.box 38 [AO.pv (Ty.int IntKind.i64) v3, AO.pv (Ty.int IntKind.i64) v4]), AV.dead, AV.dead, AV.dead, AV.dead, AV.dead, AV.dead, AV.dead, AV.dead, AV.dead, AV.dead, AV.dead, AV.dead, AV.dead, AV.dead, AV.dead, AV.dead, AV.o (AO.pv (Ty.sl 27) v5), AV.o (AO.pv (Ty.int IntKind.i64) v6), AV.o (AO.pv (Ty.int IntKind.i64) v7), AV.dead, AV.dead, AV.dead, AV.dead, AV.dead, AV.dead, AV.dead, AV.dead, AV.dead, AV.dead, AV.dead, AV.dead, AV.dead, AV.dead, AV.dead, AV.dead, AV.dead, AV.dead, AV.dead, AV.dead, AV.dead, AV.dead, AV.dead, AV.dead, AV.dead, AV.dead, AV.dead, AV.dead, AV.dead, AV.dead, AV.dead, AV.dead, AV.dead, AV.dead, AV.dead, AV.dead, AV.dead, AV.dead, AV.dead, AV.dead, AV.dead, AV.dead, AV.dead, AV.dead, AV.dead, AV.dead, AV.dead, AV.dead, AV.dead, AV.dead, AV.dead, AV.dead, AV.dead, AV.dead, AV.dead, AV.dead, AV.dead, AV.dead, AV.dead, AV.dead, AV.dead, AV.dead, AV.dead, AV.dead, AV.dead, AV.dead, AV.dead, AV.dead, AV.dead, AV.dead, AV.dead, AV.dead, AV.dead, AV.dead, AV.dead, AV.dead, AV.dead, AV.dead, AV.dead, AV.dead, AV.dead, AV.dead, AV.dead, AV.dead, AV.dead, AV.dead, AV.dead, AV.dead, AV.dead, AV.dead, AV.dead, AV.dead, AV.dead, AV.dead, AV.dead, AV.dead, AV.dead, AV.dead]
noncomputable def L4_4 (call : CallF) (k n : Nat) (v0 : PV) (v1 : PV) (v2 : PV) (v3 : PV) (v4 : PV) (v5 : PV) (v6 : PV) (v7 : PV) : R := loopAt Try.prog H0 call k 4 [.b, .b, .a, .b, .blk] n (S4_4 v0 v1 v2 v3 v4 v5 v6 v7) (behind Try.prog H0 call k 4 [.b, .b, .a, .b, .blk])
theorem L4_15_succ (call : CallF) (k m1 n : Nat) (v0 : PV) (v1 : PV) (v2 : PV) (v3 : PV) (v4 : PV) (v5 : PV) (v6 : PV) : L4_15 call k m1 (n + 1) v0 v1 v2 v3 v4 v5 v6 =
  bif ltI (v6.toInt) (v5.toInt) then
    bif leI (0) (v2.toInt) && ltI (v2.toInt) ((Nat.cast v1.toList.length : Int)) then
      bif leI (0) (v6.toInt) && ltI (v6.toInt) ((Nat.cast v1.toList.length : Int)) then
        let c19 := call 22 [AO.pv (Ty.st 27) (nth default v1.toList v2.toInt.toNat), AO.pv (Ty.st 27) (nth default v1.toList v6.toInt.toNat)]
        bif okRes Ty.bool c19 then
          bif leI (0) (v2.toInt) && ltI (v2.toInt) ((Nat.cast v1.toList.length : Int)) then
            bif leI (0) (v6.toInt) && ltI (v6.toInt) ((Nat.cast v1.toList.length : Int)) then
              let c20 := call 11 [AO.pv (Ty.st 27) (nth default v1.toList v2.toInt.toNat), AO.pv (Ty.st 27) (nth default v1.toList v6.toInt.toNat)]
              bif okRes Ty.bool c20 then
                bif !(resPV c19).toBool == (resPV c20).toBool then
  some ([AO.pv Ty.bool (PV.bool false)], [])
                else
  L4_15 call k m1 n (v0) (v1) (v2) (v3) (v4) (v5) (PV.int IntKind.i64 (IntKind.i64.wrap (v6.toInt + 1)))
              else
                none
            else
              none
          else
            none
        else
          none
      else
        none
    else
      none
  else
  bif leI (0) (v2.toInt) && ltI (v2.toInt) ((Nat.cast v1.toList.length : Int)) then
    bif leI (0) (0) && ltI (0) ((Nat.cast v1.toList.length : Int)) then
      let c21 := call 23 [AO.pv Ty.str v0, AO.pv (Ty.st 27) (nth default v1.toList v2.toInt.toNat), AO.pv (Ty.st 27) (nth default v1.toList 0)]
      bif okRes (Ty.st 27) c21 then
        bif leI (0) (v2.toInt) && ltI (v2.toInt) ((Nat.cast v1.toList.length : Int)) then
          bif leI (0) (0) && ltI (0) ((Nat.cast v1.toList.length : Int)) then
            let c22 := call 24 [AO.pv Ty.str v0, AO.pv (Ty.st 27) (nth default v1.toList v2.toInt.toNat), AO.pv (Ty.st 27) (nth default v1.toList 0)]
            bif okRes (Ty.st 27) c22 then
              let c23 := call 11 [AO.pv (Ty.st 27) (resPV c21), AO.pv (Ty.st 27) (resPV c22)]
              bif okRes Ty.bool c23 then
                bif !(resPV c23).toBool then
  some ([AO.pv Ty.bool (PV.bool false)], [])
                else
  L4_12 call k m1 (v0) (v1) (v3) (PV.int IntKind.i64 (IntKind.i64.wrap (v4.toInt + 1)))
              else
                none
            else
              none
          else
            none
        else
          none
      else
        none
    else
      none
  else
    none := by kernel_rfl
theorem L4_12_succ (call : CallF) (k n : Nat) (v0 : PV) (v1 : PV) (v2 : PV) (v3 : PV) : L4_12 call k (n + 1) v0 v1 v2 v3 =
  bif ltI (v3.toInt) (v2.toInt) then
    L4_15 call k n k (v0) (v1) (v3) (v2) (v3) (PV.int IntKind.i64 (Nat.cast v1.toList.length : Int)) (PV.int IntKind.i64 0)
  else
  let c24 := call 6 []
  bif okRes Ty.bool c24 then
    some ([AO.pv Ty.bool (resPV c24)], [])
  else
    none := by kernel_rfl
theorem L4_4_succ (call : CallF) (k n : Nat) (v0 : PV) (v1 : PV) (v2 : PV) (v3 : PV) (v4 : PV) (v5 : PV) (v6 : PV) (v7 : PV) : L4_4 call k (n + 1) v0 v1 v2 v3 v4 v5 v6 v7 =
  bif ltI (v7.toInt) (v6.toInt) then
    bif leI (0) (v7.toInt) && ltI (v7.toInt) ((Nat.cast v5.toList.length : Int)) then
      let c2 := call 5 [AO.pv (Ty.st 27) (PV.agg [(nth default v5.toList v7.toInt.toNat).cell 0, (nth default v5.toList v7.toInt.toNat).cell 1, (nth default v5.toList v7.toInt.toNat).cell 2, (nth default v5.toList v7.toInt.toNat).cell 3, (nth default v5.toList v7.toInt.toNat).cell 4, (nth default v5.toList v7.toInt.toNat).cell 5, (nth default v5.toList v7.toInt.toNat).cell 6, (nth default v5.toList v7.toInt.toNat).cell 7, (nth default v5.toList v7.toInt.toNat).cell 8, (nth default v5.toList v7.toInt.toNat).cell 9, (nth default v5.toList v7.toInt.toNat).cell 10])]
      bif okRes Ty.bool c2 then
        bif !(resPV c2).toBool then
          let c3 := call 6 []
          bif okRes Ty.bool c3 then
  some ([AO.pv Ty.bool (resPV c3)], [])
          else
            none
        else
  L4_4 call k n (v0) (v1) (v2) (v3) (v4) (v5) (v6) (PV.int IntKind.i64 (IntKind.i64.wrap (v7.toInt + 1)))
      else
        none
    else
      none
  else
  let c4 := call 12 [AO.pv (Ty.st 38) (PV.agg [v3, v4])]
  bif okRes (Ty.st 27) c4 then
    let c5 := call 13 [AO.pv (Ty.st 38) (PV.agg [v3, v4])]
    bif okRes (Ty.st 27) c5 then
      let c6 := call 11 [AO.pv (Ty.st 27) (resPV c4), AO.pv (Ty.st 27) (resPV c5)]
      bif okRes Ty.bool c6 then
        bif !(resPV c6).toBool then
          bif !(resPV c6).toBool then
            some ([AO.pv Ty.bool (PV.bool false)], [])
          else
            none
        else
          let c7 := call 14 [AO.pv Ty.str v0]
          bif okRes (Ty.st 27) c7 then
            let c8 := call 15 [AO.pv Ty.str v0]
            bif okRes (Ty.st 27) c8 then
              let c9 := call 11 [AO.pv (Ty.st 27) (resPV c7), AO.pv (Ty.st 27) (resPV c8)]
              bif okRes Ty.bool c9 then
                bif !(resPV c6).toBool then
                  some ([AO.pv Ty.bool (PV.bool false)], [])
                else
                  bif !(resPV c9).toBool then
                    bif !(resPV c9).toBool then
                      some ([AO.pv Ty.bool (PV.bool false)], [])
                    else
                      none
                  else
                    let c10 := call 16 [AO.pv (Ty.sl 27) v2]
                    bif okRes (Ty.st 27) c10 then
                      let c11 := call 17 [AO.pv (Ty.sl 27) v2]
                      bif okRes (Ty.st 27) c11 then
                        let c12 := call 11 [AO.pv (Ty.st 27) (resPV c10), AO.pv (Ty.st 27) (resPV c11)]
                        bif okRes Ty.bool c12 then
                          bif !(resPV c9).toBool then
                            some ([AO.pv Ty.bool (PV.bool false)], [])
                          else
                            bif !(resPV c12).toBool then
                              bif !(resPV c12).toBool then
                                some ([AO.pv Ty.bool (PV.bool false)], [])
                              else
                                none
                            else
                              let c13 := call 18 [AO.pv (Ty.sl 27) v2]
                              bif okRes (Ty.st 27) c13 then
                                let c14 := call 19 [AO.pv (Ty.sl 27) v2]
                                bif okRes (Ty.st 27) c14 then
                                  let c15 := call 11 [AO.pv (Ty.st 27) (resPV c13), AO.pv (Ty.st 27) (resPV c14)]
                                  bif okRes Ty.bool c15 then
                                    bif !(resPV c12).toBool then
                                      some ([AO.pv Ty.bool (PV.bool false)], [])
                                    else
                                      bif !(resPV c15).toBool then
                                        bif !(resPV c15).toBool then
                                          some ([AO.pv Ty.bool (PV.bool false)], [])
                                        else
                                          none
                                      else
                                        let c16 := call 20 [AO.pv (Ty.int IntKind.i64) v1]
                                        bif okRes (Ty.st 27) c16 then
                                          let c17 := call 21 [AO.pv (Ty.int IntKind.i64) v1]
                                          bif okRes (Ty.st 27) c17 then
                                            let c18 := call 11 [AO.pv (Ty.st 27) (resPV c16), AO.pv (Ty.st 27) (resPV c17)]
                                            bif okRes Ty.bool c18 then
                                              bif !(resPV c15).toBool then
                                                some ([AO.pv Ty.bool (PV.bool false)], [])
                                              else
                                                bif !(resPV c18).toBool then
                                                  some ([AO.pv Ty.bool (PV.bool false)], [])
                                                else
                                                  L4_12 call k k (v0) (v2) (PV.int IntKind.i64 (Nat.cast v2.toList.length : Int)) (PV.int IntKind.i64 0)
                                            else
                                              none
                                          else
                                            none
                                        else
                                          none
                                  else
                                    none
                                else
                                  none
                              else
                                none
                        else
                          none
                      else
                        none
                    else
                      none
              else
                none
            else
              none
          else
            none
      else
        none
    else
      none
  else
    none := by kernel_rfl
theorem R4 (call : CallF) (k : Nat) (x0 : PV) (x1 : PV) (x2 : PV) (x3 : PV) : evStep Try.prog H0 call k 4 [AO.pv Ty.str x0, AO.pv (Ty.st 38) x1, AO.pv (Ty.int IntKind.i64) x2, AO.pv (Ty.sl 27) x3] =
  bif ltI (100) ((Nat.cast x0.toStr.size : Int)) then
    let c0 := call 6 []
    bif okRes Ty.bool c0 then
      some ([AO.pv Ty.bool (resPV c0)], [])
    else
      none
  else
    bif ltI (20) ((Nat.cast x3.toList.length : Int)) then
      let c1 := call 6 []
      bif okRes Ty.bool c1 then
        some ([AO.pv Ty.bool (resPV c1)], [])
      else
        none
    else
      L4_4 call k k (x0) (x2) (x3) (x1.cell 0) (x1.cell 1) (x3) (PV.int IntKind.i64 (Nat.cast x3.toList.length : Int)) (PV.int IntKind.i64 0) := by kernel_rfl


theorem R5 (call : CallF) (k : Nat) (x0 : PV) : evStep Try.prog H0 call k 5 [AO.pv (Ty.st 27) x0] =
  let c0 := call 25 [AO.pv (Ty.st 27) (PV.agg [x0.cell 0, x0.cell 1, x0.cell 2, x0.cell 3, x0.cell 4, x0.cell 5, x0.cell 6, x0.cell 7, x0.cell 8, x0.cell 9, x0.cell 10])]
  bif okRes (Ty.int IntKind.i64) c0 then
    bif ltI (700) ((resPV c0).toInt) then
      some ([AO.pv Ty.bool (PV.bool false)], [])
    else
      let c1 := call 26 [AO.pv (Ty.st 27) (PV.agg [x0.cell 0, x0.cell 1, x0.cell 2, x0.cell 3, x0.cell 4, x0.cell 5, x0.cell 6, x0.cell 7, x0.cell 8, x0.cell 9, x0.cell 10])]
      bif okRes Ty.bool c1 then
        some ([AO.pv Ty.bool (resPV c1)], [])
      else
        none
  else
    none := by kernel_rfl

def S11_4 (v0 : PV) (v1 : PV) (v2 : PV) (v3 : PV) (v4 : PV) (v5 : PV) (v6 : PV) (v7 : PV) (v8 : PV) (v9 : PV) (v10 : PV) (v11 : PV) (v12 : PV) (v13 : PV) (v14 : PV) (v15 : PV) (v16 : PV) (v17 : PV) (v18 : PV) (v19 : PV) (v20 : PV) (v21 : PV) (v22 : PV) : St := [AV.dead, AV.dead, AV.o (AO.box 27 [AO.pv Ty.str v0, AO.pv Ty.str v1, AO.pv (Ty.int IntKind.i64) v2, AO.pv (Ty.int IntKind.i64) v3, AO.pv (Ty.sl 38) v4, AO.pv Ty.str v5, AO.pv (Ty.int IntKind.i64) v6, AO.pv (Ty.int IntKind.i64) v7, AO.pv Ty.str v8, AO.pv Ty.str v9, AO.pv (Ty.sl 27) v10]), AV.o (AO.box 27 [AO.pv Ty.str v11, AO.pv Ty.str v12, AO.pv (Ty.int IntKind.i64) v13, AO.pv (Ty.int IntKind.i64) v14, AO.pv (Ty.sl 38) v15, AO.pv Ty.str v16, AO.pv (Ty.int IntKind.i64) v17, AO.pv (Ty.int IntKind.i64) v18, AO.pv Ty.str v19, AO.pv Ty.str v20, AO.pv (Ty.sl 27) v21]), AV.dead, AV.o (AO.pv (Ty.int IntKind.i64) v22), AV.dead, AV.dead, AV.dead, AV.dead, AV.dead, AV.dead, AV.dead, AV.dead, AV.dead, AV.dead, AV.dead, AV.dead, AV.dead, AV.dead, AV.dead, AV.dead, AV.dead, AV.dead, AV.dead, AV.dead, AV.dead, AV.dead, AV.dead, AV.dead, AV.dead, AV.dead, AV.dead, AV.dead, AV.dead, AV.dead, AV.dead, AV.dead, AV.dead, AV.dead, AV.dead, AV.dead, AV.dead, AV.dead, AV.dead, AV.dead, AV.dead, AV.dead, AV.dead, AV.dead, AV.dead, AV.dead, AV.dead, AV.dead, AV.dead, AV.dead, AV.dead, AV.dead, AV.dead, AV.dead, AV.dead, AV.dead, AV.dead, AV.dead, AV.dead, AV.dead, AV.dead, AV.dead, AV.dead, AV.dead, AV.dead, AV.dead, AV.dead, AV.dead, AV.dead]
noncomputable def L11_4 (call : CallF) (k n : Nat) (v0 : PV) (v1 : PV) (v2 : PV) (v3 : PV) (v4 : PV) (v5 : PV) (v6 : PV) (v7 : PV) (v8 : PV) (v9 : PV) (v10 : PV) (v11 : PV) (v12 : PV) (v13 : PV) (v14 : PV) (v15 : PV) (v16 : PV) (v17 : PV) (v18 : PV) (v19 : PV) (v20 : PV) (v21 : PV) (v22 : PV) : R := loopAt Try.prog H0 call k 11 [.b, .b, .a, .b, .blk] n (S11_4 v0 v1 v2 v3 v4 v5 v6 v7 v8 v9 v10 v11 v12 v13 v14 v15 v16 v17 v18 v19 v20 v21 v22) (behind Try.prog H0 call k 11 [.b, .b, .a, .b, .blk])
theorem L11_4_succ (call : CallF) (k n : Nat) (v0 : PV) (v1 : PV) (v2 : PV) (v3 : PV) (v4 : PV) (v5 : PV) (v6 : PV) (v7 : PV) (v8 : PV) (v9 : PV) (v10 : PV) (v11 : PV) (v12 : PV) (v13 : PV) (v14 : PV) (v15 : PV) (v16 : PV) (v17 : PV) (v18 : PV) (v19 : PV) (v20 : PV) (v21 : PV) (v22 : PV) : L11_4 call k (n + 1) v0 v1 v2 v3 v4 v5 v6 v7 v8 v9 v10 v11 v12 v13 v14 v15 v16 v17 v18 v19 v20 v21 v22 =
  bif ltI (v22.toInt) ((Nat.cast v10.toList.length : Int)) then
    bif leI (0) (v22.toInt) && ltI (v22.toInt) ((Nat.cast v10.toList.length : Int)) then
      bif leI (0) (v22.toInt) && ltI (v22.toInt) ((Nat.cast v21.toList.length : Int)) then
        let c1 := call 11 [AO.pv (Ty.st 27) (nth default v10.toList v22.toInt.toNat), AO.pv (Ty.st 27) (nth default v21.toList v22.toInt.toNat)]
        bif okRes Ty.bool c1 then
          bif !(resPV c1).toBool then
  some ([AO.pv Ty.bool (PV.bool false)], [])
          else
  L11_4 call k n (v0) (v1) (v2) (v3) (v4) (v5) (v6) (v7) (v8) (v9) (v10) (v11) (v12) (v13) (v14) (v15) (v16) (v17) (v18) (v19) (v20) (v21) (PV.int IntKind.i64 (IntKind.i64.wrap (v22.toInt + 1)))
        else
          none
      else
        none
    else
      none
  else
  some ([AO.pv Ty.bool (PV.bool true)], []) := by kernel_rfl
theorem R11 (call : CallF) (k : Nat) (x0 : PV) (x1 : PV) : evStep Try.prog H0 call k 11 [AO.pv (Ty.st 27) x0, AO.pv (Ty.st 27) x1] =
  bif !(x0.cell 0).toStr.data.toList == (x1.cell 0).toStr.data.toList then
    some ([AO.pv Ty.bool (PV.bool false)], [])
  else
    bif !(x0.cell 1).toStr.data.toList == (x1.cell 1).toStr.data.toList then
      some ([AO.pv Ty.bool (PV.bool false)], [])
    else
      bif !eqI ((x0.cell 2).toInt) ((x1.cell 2).toInt) then
        some ([AO.pv Ty.bool (PV.bool false)], [])
      else
        bif !eqI ((x0.cell 3).toInt) ((x1.cell 3).toInt) then
          some ([AO.pv Ty.bool (PV.bool false)], [])
        else
          bif !((x0.cell 5).toStr.data.toList == (x1.cell 5).toStr.data.toList && (eqI ((x0.cell 6).toInt) ((x1.cell 6).toInt) && (eqI ((x0.cell 7).toInt) ((x1.cell 7).toInt) && ((x0.cell 8).toStr.data.toList == (x1.cell 8).toStr.data.toList && (x0.cell 9).toStr.data.toList == (x1.cell 9).toStr.data.toList)))) then
            some ([AO.pv Ty.bool (PV.bool false)], [])
          else
            let c0 := call 31 [AO.pv (Ty.sl 38) (x0.cell 4), AO.pv (Ty.sl 38) (x1.cell 4)]
            bif okRes Ty.bool c0 then
              bif !(resPV c0).toBool then
                some ([AO.pv Ty.bool (PV.bool false)], [])
              else
                bif !eqI ((Nat.cast (x0.cell 10).toList.length : Int)) ((Nat.cast (x1.cell 10).toList.length : Int)) then
                  some ([AO.pv Ty.bool (PV.bool false)], [])
                else
                  L11_4 call k k (x0.cell 0) (x0.cell 1) (x0.cell 2) (x0.cell 3) (x0.cell 4) (x0.cell 5) (x0.cell 6) (x0.cell 7) (x0.cell 8) (x0.cell 9) (x0.cell 10) (x1.cell 0) (x1.cell 1) (x1.cell 2) (x1.cell 3) (x1.cell 4) (x1.cell 5) (x1.cell 6) (x1.cell 7) (x1.cell 8) (x1.cell 9) (x1.cell 10) (PV.int IntKind.i64 0)
            else
              none := by kernel_rfl


theorem R12 (call : CallF) (k : Nat) (x0 : PV) : evStep Try.prog H0 call k 12 [AO.pv (Ty.st 38) x0] =
  some ([AO.pv (Ty.st 27) (PV.agg [PV.str { data := #[110, 117, 109] }, PV.str { data := #[] }, PV.int IntKind.i64 0, PV.int IntKind.i64 0, PV.sl [PV.agg [x0.cell 0, x0.cell 1]].reverse, PV.str { data := #[] }, PV.int IntKind.i64 0, PV.int IntKind.i64 0, PV.str { data := #[] }, PV.str { data := #[] }, PV.sl []])], []) := by kernel_rfl


theorem R13 (call : CallF) (k : Nat) (x0 : PV) : evStep Try.prog H0 call k 13 [AO.pv (Ty.st 38) x0] =
  some ([AO.pv (Ty.st 27) (PV.agg [PV.str { data := #[110, 117, 109] }, PV.str { data := #[] }, PV.int IntKind.i64 0, PV.int IntKind.i64 0, PV.sl [PV.agg [x0.cell 0, x0.cell 1]].reverse, PV.str { data := #[] }, PV.int IntKind.i64 0, PV.int IntKind.i64 0, PV.str { data := #[] }, PV.str { data := #[] }, PV.sl []])], []) := by kernel_rfl


theorem R14 (call : CallF) (k : Nat) (x0 : PV) : evStep Try.prog H0 call k 14 [AO.pv Ty.str x0] =
  some ([AO.pv (Ty.st 27) (PV.agg [x0, PV.str { data := #[] }, PV.int IntKind.i64 0, PV.int IntKind.i64 0, PV.sl [], PV.str { data := #[] }, PV.int IntKind.i64 0, PV.int IntKind.i64 0, PV.str { data := #[] }, PV.str { data := #[] }, PV.sl []])], []) := by kernel_rfl


theorem R15 (call : CallF) (k : Nat) (x0 : PV) : evStep Try.prog H0 call k 15 [AO.pv Ty.str x0] =
  some ([AO.pv (Ty.st 27) (PV.agg [x0, PV.str { data := #[] }, PV.int IntKind.i64 0, PV.int IntKind.i64 0, PV.sl [], PV.str { data := #[] }, PV.int IntKind.i64 0, PV.int IntKind.i64 0, PV.str { data := #[] }, PV.str { data := #[] }, PV.sl []])], []) := by kernel_rfl


theorem R16 (call : CallF) (k : Nat) (x0 : PV) : evStep Try.prog H0 call k 16 [AO.pv (Ty.sl 27) x0] =
  let c0 := call 32 [AO.pv Ty.str (PV.str { data := #[112, 97, 114] }), AO.pv (Ty.sl 27) x0]
  bif okRes (Ty.st 27) c0 then
    some ([AO.pv (Ty.st 27) (PV.agg [(resPV c0).cell 0, (resPV c0).cell 1, (resPV c0).cell 2, (resPV c0).cell 3, (resPV c0).cell 4, (resPV c0).cell 5, (resPV c0).cell 6, (resPV c0).cell 7, (resPV c0).cell 8, (resPV c0).cell 9, (resPV c0).cell 10])], [])
  else
    none := by kernel_rfl


theorem R17 (call : CallF) (k : Nat) (x0 : PV) : evStep Try.prog H0 call k 17 [AO.pv (Ty.sl 27) x0] =
  let c0 := call 33 [AO.pv Ty.str (PV.str { data := #[112, 97, 114] }), AO.pv (Ty.sl 27) x0]
  bif okRes (Ty.st 27) c0 then
    some ([AO.pv (Ty.st 27) (PV.agg [(resPV c0).cell 0, (resPV c0).cell 1, (resPV c0).cell 2, (resPV c0).cell 3, (resPV c0).cell 4, (resPV c0).cell 5, (resPV c0).cell 6, (resPV c0).cell 7, (resPV c0).cell 8, (resPV c0).cell 9, (resPV c0).cell 10])], [])
  else
    none := by kernel_rfl


theorem R18 (call : CallF) (k : Nat) (x0 : PV) : evStep Try.prog H0 call k 18 [AO.pv (Ty.sl 27) x0] =
  let c0 := call 32 [AO.pv Ty.str (PV.str { data := #[115, 101, 113] }), AO.pv (Ty.sl 27) x0]
  bif okRes (Ty.st 27) c0 then
    some ([AO.pv (Ty.st 27) (PV.agg [(resPV c0).cell 0, (resPV c0).cell 1, (resPV c0).cell 2, (resPV c0).cell 3, (resPV c0).cell 4, (resPV c0).cell 5, (resPV c0).cell 6, (resPV c0).cell 7, (resPV c0).cell 8, (resPV c0).cell 9, (resPV c0).cell 10])], [])
  else
    none := by kernel_rfl


theorem R19 (call : CallF) (k : Nat) (x0 : PV) : evStep Try.prog H0 call k 19 [AO.pv (Ty.sl 27) x0] =
  let c0 := call 33 [AO.pv Ty.str (PV.str { data := #[115, 101, 113] }), AO.pv (Ty.sl 27) x0]
  bif okRes (Ty.st 27) c0 then
    some ([AO.pv (Ty.st 27) (PV.agg [(resPV c0).cell 0, (resPV c0).cell 1, (resPV c0).cell 2, (resPV c0).cell 3, (resPV c0).cell 4, (resPV c0).cell 5, (resPV c0).cell 6, (resPV c0).cell 7, (resPV c0).cell 8, (resPV c0).cell 9, (resPV c0).cell 10])], [])
  else
    none := by kernel_rfl

def S20_5 (v0 : PV) (v1 : PV) (v2 : PV) (v3 : PV) (v4 : List PV) (v5 : PV) (v6 : PV) (v7 : PV) (v8 : PV) (v9 : PV) (v10 : List PV) (v11 : List PV) (v12 : PV) (v13 : PV) : St := [AV.dead, AV.dead, AV.o (AO.box 27 [AO.pv Ty.str v0, AO.pv Ty.str v1, AO.pv (Ty.int IntKind.i64) v2, AO.pv (Ty.int IntKind.i64) v3, AO.arr 38 v4, AO.pv Ty.str v5, AO.pv (Ty.int IntKind.i64) v6, AO.pv (Ty.int IntKind.i64) v7, AO.pv Ty.str v8, AO.pv Ty.str v9, AO.arr 27 v10]), AV.o (AO.arr 27 v11), AV.dead, AV.dead, AV.dead, AV.dead, AV.dead, AV.dead, AV.dead, AV.dead, AV.dead, AV.dead, AV.dead, AV.o (AO.pv (Ty.int IntKind.i64) v12), AV.o (AO.pv (Ty.int IntKind.i64) v13), AV.dead, AV.dead, AV.dead, AV.dead, AV.dead, AV.dead, AV.dead, AV.dead, AV.dead]
noncomputable def L20_5 (call : CallF) (k n : Nat) (v0 : PV) (v1 : PV) (v2 : PV) (v3 : PV) (v4 : List PV) (v5 : PV) (v6 : PV) (v7 : PV) (v8 : PV) (v9 : PV) (v10 : List PV) (v11 : List PV) (v12 : PV) (v13 : PV) : R := loopAt Try.prog H0 call k 20 [.b, .b, .b, .a, .b, .blk] n (S20_5 v0 v1 v2 v3 v4 v5 v6 v7 v8 v9 v10 v11 v12 v13) (behind Try.prog H0 call k 20 [.b, .b, .b, .a, .b, .blk])
theorem L20_5_succ (call : CallF) (k n : Nat) (v0 : PV) (v1 : PV) (v2 : PV) (v3 : PV) (v4 : List PV) (v5 : PV) (v6 : PV) (v7 : PV) (v8 : PV) (v9 : PV) (v10 : List PV) (v11 : List PV) (v12 : PV) (v13 : PV) : L20_5 call k (n + 1) v0 v1 v2 v3 v4 v5 v6 v7 v8 v9 v10 v11 v12 v13 =
  bif ltI (v13.toInt) (v12.toInt) then
    let c0 := call 14 [AO.pv Ty.str (PV.str { data := #[119, 105, 114, 101] })]
    bif okRes (Ty.st 27) c0 then
      bif Nat.beq 27 27 && (leI (0) (v13.toInt) && ltI (v13.toInt) ((Nat.cast v11.length : Int))) then
  L20_5 call k n (v0) (v1) (v2) (v3) (v4) (v5) (v6) (v7) (v8) (v9) (v10) (v11.set v13.toInt.toNat (resPV c0)) (v12) (PV.int IntKind.i64 (IntKind.i64.wrap (v13.toInt + 1)))
      else
        none
    else
      none
  else
  let c1 := call 16 [AO.pv (Ty.sl 27) (PV.sl v11)]
  bif okBacks (lentOf [AO.pv (Ty.sl 27) (PV.sl v11)]) c1 then
    bif okRes (Ty.st 27) c1 then
      some ([AO.pv (Ty.st 27) (PV.agg [(resPV c1).cell 0, (resPV c1).cell 1, (resPV c1).cell 2, (resPV c1).cell 3, (resPV c1).cell 4, (resPV c1).cell 5, (resPV c1).cell 6, (resPV c1).cell 7, (resPV c1).cell 8, (resPV c1).cell 9, (resPV c1).cell 10])], [])
    else
      none
  else
    none := by kernel_rfl
theorem R20 (call : CallF) (k : Nat) (x0 : PV) : evStep Try.prog H0 call k 20 [AO.pv (Ty.int IntKind.i64) x0] =
  bif ltI (x0.toInt) (1) then
    some ([AO.pv (Ty.st 27) (PV.agg [PV.str { data := #[] }, PV.str { data := #[] }, PV.int IntKind.i64 0, PV.int IntKind.i64 0, PV.sl [], PV.str { data := #[] }, PV.int IntKind.i64 0, PV.int IntKind.i64 0, PV.str { data := #[] }, PV.str { data := #[] }, PV.sl []])], [])
  else
    bif ltI (64) (x0.toInt) then
      some ([AO.pv (Ty.st 27) (PV.agg [PV.str { data := #[] }, PV.str { data := #[] }, PV.int IntKind.i64 0, PV.int IntKind.i64 0, PV.sl [], PV.str { data := #[] }, PV.int IntKind.i64 0, PV.int IntKind.i64 0, PV.str { data := #[] }, PV.str { data := #[] }, PV.sl []])], [])
    else
      bif zeroOk Try.prog 27 && leI (0) (x0.toInt) && (leI (x0.toInt) (x0.toInt) && (leI (x0.toInt) (140737488355328) && leI ((Nat.cast 160 : Int) * x0.toInt) (140737488355328))) then
        L20_5 call k k (PV.str { data := #[] }) (PV.str { data := #[] }) (PV.int IntKind.i64 0) (PV.int IntKind.i64 0) ([]) (PV.str { data := #[] }) (PV.int IntKind.i64 0) (PV.int IntKind.i64 0) (PV.str { data := #[] }) (PV.str { data := #[] }) ([]) (List.replicate x0.toInt.toNat (PV.agg [PV.str { data := #[] }, PV.str { data := #[] }, PV.int IntKind.i64 0, PV.int IntKind.i64 0, PV.sl [], PV.str { data := #[] }, PV.int IntKind.i64 0, PV.int IntKind.i64 0, PV.str { data := #[] }, PV.str { data := #[] }, PV.sl []])) (PV.int IntKind.i64 (Nat.cast (List.replicate x0.toInt.toNat (PV.agg [PV.str { data := #[] }, PV.str { data := #[] }, PV.int IntKind.i64 0, PV.int IntKind.i64 0, PV.sl [], PV.str { data := #[] }, PV.int IntKind.i64 0, PV.int IntKind.i64 0, PV.str { data := #[] }, PV.str { data := #[] }, PV.sl []])).length : Int)) (PV.int IntKind.i64 0)
      else
        none := by kernel_rfl

def S21_5 (v0 : PV) (v1 : PV) (v2 : PV) (v3 : PV) (v4 : PV) (v5 : List PV) (v6 : PV) (v7 : PV) (v8 : PV) (v9 : PV) (v10 : PV) (v11 : List PV) (v12 : List PV) (v13 : PV) : St := [AV.o (AO.pv (Ty.int IntKind.i64) v0), AV.dead, AV.o (AO.box 27 [AO.pv Ty.str v1, AO.pv Ty.str v2, AO.pv (Ty.int IntKind.i64) v3, AO.pv (Ty.int IntKind.i64) v4, AO.arr 38 v5, AO.pv Ty.str v6, AO.pv (Ty.int IntKind.i64) v7, AO.pv (Ty.int IntKind.i64) v8, AO.pv Ty.str v9, AO.pv Ty.str v10, AO.arr 27 v11]), AV.o (AO.arr 27 v12), AV.o (AO.pv (Ty.int IntKind.i64) v13), AV.dead, AV.dead, AV.dead, AV.dead, AV.dead, AV.dead, AV.dead, AV.dead, AV.dead, AV.dead, AV.dead, AV.dead, AV.dead, AV.dead, AV.dead, AV.dead, AV.dead, AV.dead]
noncomputable def L21_5 (call : CallF) (k n : Nat) (v0 : PV) (v1 : PV) (v2 : PV) (v3 : PV) (v4 : PV) (v5 : List PV) (v6 : PV) (v7 : PV) (v8 : PV) (v9 : PV) (v10 : PV) (v11 : List PV) (v12 : List PV) (v13 : PV) : R := loopAt Try.prog H0 call k 21 [.b, .b, .b, .a, .b, .blk] n (S21_5 v0 v1 v2 v3 v4 v5 v6 v7 v8 v9 v10 v11 v12 v13) (behind Try.prog H0 call k 21 [.b, .b, .b, .a, .b, .blk])
theorem L21_5_succ (call : CallF) (k n : Nat) (v0 : PV) (v1 : PV) (v2 : PV) (v3 : PV) (v4 : PV) (v5 : List PV) (v6 : PV) (v7 : PV) (v8 : PV) (v9 : PV) (v10 : PV) (v11 : List PV) (v12 : List PV) (v13 : PV) : L21_5 call k (n + 1) v0 v1 v2 v3 v4 v5 v6 v7 v8 v9 v10 v11 v12 v13 =
  bif ltI (v13.toInt) (v0.toInt) then
    let c0 := call 15 [AO.pv Ty.str (PV.str { data := #[119, 105, 114, 101] })]
    bif okRes (Ty.st 27) c0 then
      bif Nat.beq 27 27 && leN ((v12.length + [resPV c0].reverse.length) * 160) (room) then
  L21_5 call k n (v0) (v1) (v2) (v3) (v4) (v5) (v6) (v7) (v8) (v9) (v10) (v11) (v12 ++ [resPV c0].reverse) (PV.int IntKind.i64 (IntKind.i64.wrap (v13.toInt + 1)))
      else
        none
    else
      none
  else
  let c1 := call 17 [AO.pv (Ty.sl 27) (PV.sl v12)]
  bif okBacks (lentOf [AO.pv (Ty.sl 27) (PV.sl v12)]) c1 then
    bif okRes (Ty.st 27) c1 then
      some ([AO.pv (Ty.st 27) (PV.agg [(resPV c1).cell 0, (resPV c1).cell 1, (resPV c1).cell 2, (resPV c1).cell 3, (resPV c1).cell 4, (resPV c1).cell 5, (resPV c1).cell 6, (resPV c1).cell 7, (resPV c1).cell 8, (resPV c1).cell 9, (resPV c1).cell 10])], [])
    else
      none
  else
    none := by kernel_rfl
theorem R21 (call : CallF) (k : Nat) (x0 : PV) : evStep Try.prog H0 call k 21 [AO.pv (Ty.int IntKind.i64) x0] =
  bif ltI (x0.toInt) (1) then
    some ([AO.pv (Ty.st 27) (PV.agg [PV.str { data := #[] }, PV.str { data := #[] }, PV.int IntKind.i64 0, PV.int IntKind.i64 0, PV.sl [], PV.str { data := #[] }, PV.int IntKind.i64 0, PV.int IntKind.i64 0, PV.str { data := #[] }, PV.str { data := #[] }, PV.sl []])], [])
  else
    bif ltI (64) (x0.toInt) then
      some ([AO.pv (Ty.st 27) (PV.agg [PV.str { data := #[] }, PV.str { data := #[] }, PV.int IntKind.i64 0, PV.int IntKind.i64 0, PV.sl [], PV.str { data := #[] }, PV.int IntKind.i64 0, PV.int IntKind.i64 0, PV.str { data := #[] }, PV.str { data := #[] }, PV.sl []])], [])
    else
      L21_5 call k k (x0) (PV.str { data := #[] }) (PV.str { data := #[] }) (PV.int IntKind.i64 0) (PV.int IntKind.i64 0) ([]) (PV.str { data := #[] }) (PV.int IntKind.i64 0) (PV.int IntKind.i64 0) (PV.str { data := #[] }) (PV.str { data := #[] }) ([]) ([]) (PV.int IntKind.i64 0) := by kernel_rfl

def S22_10 (v0 : PV) (v1 : PV) (v2 : PV) (v3 : PV) (v4 : PV) (v5 : PV) (v6 : PV) (v7 : PV) (v8 : PV) (v9 : PV) (v10 : PV) (v11 : PV) (v12 : PV) (v13 : PV) (v14 : PV) (v15 : PV) (v16 : PV) (v17 : PV) (v18 : PV) (v19 : PV) (v20 : PV) (v21 : PV) (v22 : PV) (v23 : PV) : St := [AV.dead, AV.dead, AV.o (AO.box 27 [AO.pv Ty.str v0, AO.pv Ty.str v1, AO.pv (Ty.int IntKind.i64) v2, AO.pv (Ty.int IntKind.i64) v3, AO.pv (Ty.sl 38) v4, AO.pv Ty.str v5, AO.pv (Ty.int IntKind.i64) v6, AO.pv (Ty.int IntKind.i64) v7, AO.pv Ty.str v8, AO.pv Ty.str v9, AO.pv (Ty.sl 27) v10]), AV.o (AO.box 27 [AO.pv Ty.str v11, AO.pv Ty.str v12, AO.pv (Ty.int IntKind.i64) v13, AO.pv (Ty.int IntKind.i64) v14, AO.pv (Ty.sl 38) v15, AO.pv Ty.str v16, AO.pv (Ty.int IntKind.i64) v17, AO.pv (Ty.int IntKind.i64) v18, AO.pv Ty.str v19, AO.pv Ty.str v20, AO.pv (Ty.sl 27) v21]), AV.dead, AV.dead, AV.dead, AV.dead, AV.dead, AV.dead, AV.dead, AV.dead, AV.dead, AV.dead, AV.dead, AV.dead, AV.dead, AV.dead, AV.dead, AV.dead, AV.dead, AV.dead, AV.dead, AV.dead, AV.dead, AV.dead, AV.dead, AV.dead, AV.dead, AV.dead, AV.dead, AV.dead, AV.dead, AV.dead, AV.dead, AV.dead, AV.dead, AV.dead, AV.dead, AV.dead, AV.dead, AV.dead, AV.dead, AV.dead, AV.dead, AV.dead, AV.dead, AV.dead, AV.dead, AV.dead, AV.dead, AV.dead, AV.dead, AV.dead, AV.dead, AV.dead, AV.dead, AV.dead, AV.dead, AV.dead, AV.dead, AV.dead, AV.dead, AV.dead, AV.dead, AV.dead, AV.dead, AV.dead, AV.dead, AV.dead, AV.dead, AV.dead, AV.dead, AV.dead, AV.dead, AV.dead, AV.dead, AV.dead, AV.dead, AV.dead, AV.o (AO.pv (Ty.int IntKind.i64) v22), AV.o (AO.pv (Ty.int IntKind.i64) v23), AV.dead, AV.dead, AV.dead, AV.dead, AV.dead, AV.dead, AV.dead, AV.dead, AV.dead, AV.dead, AV.dead, AV.dead, AV.dead, AV.dead, AV.dead]
noncomputable def L22_10 (call : CallF) (k n : Nat) (v0 : PV) (v1 : PV) (v2 : PV) (v3 : PV) (v4 : PV) (v5 : PV) (v6 : PV) (v7 : PV) (v8 : PV) (v9 : PV) (v10 : PV) (v11 : PV) (v12 : PV) (v13 : PV) (v14 : PV) (v15 : PV) (v16 : PV) (v17 : PV) (v18 : PV) (v19 : PV) (v20 : PV) (v21 : PV) (v22 : PV) (v23 : PV) : R := loopAt Try.prog H0 call k 22 [.b, .b, .b, .a, .b, .blk] n (S22_10 v0 v1 v2 v3 v4 v5 v6 v7 v8 v9 v10 v11 v12 v13 v14 v15 v16 v17 v18 v19 v20 v21 v22 v23) (behind Try.prog H0 call k 22 [.b, .b, .b, .a, .b, .blk])
def S22_4 (v0 : PV) (v1 : PV) (v2 : PV) (v3 : PV) (v4 : PV) (v5 : PV) (v6 : PV) (v7 : PV) (v8 : PV) (v9 : PV) (v10 : PV) (v11 : PV) (v12 : PV) (v13 : PV) (v14 : PV) (v15 : PV) (v16 : PV) (v17 : PV) (v18 : PV) (v19 : PV) (v20 : PV) (v21 : PV) (v22 : PV) (v23 : PV) : St := [AV.dead, AV.dead, AV.o (AO.box 27 [AO.pv Ty.str v0, AO.pv Ty.str v1, AO.pv (Ty.int IntKind.i64) v2, AO.pv (Ty.int IntKind.i64) v3, AO.pv (Ty.sl 38) v4, AO.pv Ty.str v5, AO.pv (Ty.int IntKind.i64) v6, AO.pv (Ty.int IntKind.i64) v7, AO.pv Ty.str v8, AO.pv Ty.str v9, AO.pv (Ty.sl 27) v10]), AV.o (AO.box 27 [AO.pv Ty.str v11, AO.pv Ty.str v12, AO.pv (Ty.int IntKind.i64) v13, AO.pv (Ty.int IntKind.i64) v14, AO.pv (Ty.sl 38) v15, AO.pv Ty.str v16, AO.pv (Ty.int IntKind.i64) v17, AO.pv (Ty.int IntKind.i64) v18, AO.pv Ty.str v19, AO.pv Ty.str v20, AO.pv (Ty.sl 27) v21]), AV.dead, AV.dead, AV.dead, AV.dead, AV.dead, AV.dead, AV.dead, AV.dead, AV.dead, AV.dead, AV.dead, AV.dead, AV.dead, AV.dead, AV.dead, AV.dead, AV.dead, AV.dead, AV.dead, AV.dead, AV.dead, AV.dead, AV.dead, AV.dead, AV.dead, AV.dead, AV.dead, AV.dead, AV.dead, AV.dead, AV.dead, AV.dead, AV.dead, AV.dead, AV.dead, AV.dead, AV.dead, AV.dead, AV.dead, AV.dead, AV.dead, AV.dead, AV.dead, AV.dead, AV.dead, AV.dead, AV.dead, AV.dead, AV.dead, AV.dead, AV.dead, AV.dead, AV.dead, AV.dead, AV.dead, AV.dead, AV.o (AO.pv (Ty.int IntKind.i64) v22), AV.o (AO.pv (Ty.int IntKind.i64) v23), AV.dead, AV.dead, AV.dead, AV.dead, AV.dead, AV.dead, AV.dead, AV.dead, AV.dead, AV.dead, AV.dead, AV.dead, AV.dead, AV.dead, AV.dead, AV.dead, AV.dead, AV.dead, AV.dead, AV.dead, AV.dead, AV.dead, AV.dead, AV.dead, AV.dead, AV.dead, AV.dead, AV.dead, AV.dead, AV.dead, AV.dead, AV.dead, AV.dead, AV.dead, AV.dead]
noncomputable def L22_4 (call : CallF) (k n : Nat) (v0 : PV) (v1 : PV) (v2 : PV) (v3 : PV) (v4 : PV) (v5 : PV) (v6 : PV) (v7 : PV) (v8 : PV) (v9 : PV) (v10 : PV) (v11 : PV) (v12 : PV) (v13 : PV) (v14 : PV) (v15 : PV) (v16 : PV) (v17 : PV) (v18 : PV) (v19 : PV) (v20 : PV) (v21 : PV) (v22 : PV) (v23 : PV) : R := loopAt Try.prog H0 call k 22 [.b, .b, .a, .b, .blk] n (S22_4 v0 v1 v2 v3 v4 v5 v6 v7 v8 v9 v10 v11 v12 v13 v14 v15 v16 v17 v18 v19 v20 v21 v22 v23) (behind Try.prog H0 call k 22 [.b, .b, .a, .b, .blk])
theorem L22_10_succ (call : CallF) (k n : Nat) (v0 : PV) (v1 : PV) (v2 : PV) (v3 : PV) (v4 : PV) (v5 : PV) (v6 : PV) (v7 : PV) (v8 : PV) (v9 : PV) (v10 : PV) (v11 : PV) (v12 : PV) (v13 : PV) (v14 : PV) (v15 : PV) (v16 : PV) (v17 : PV) (v18 : PV) (v19 : PV) (v20 : PV) (v21 : PV) (v22 : PV) (v23 : PV) : L22_10 call k (n + 1) v0 v1 v2 v3 v4 v5 v6 v7 v8 v9 v10 v11 v12 v13 v14 v15 v16 v17 v18 v19 v20 v21 v22 v23 =
  bif ltI (v23.toInt) (v22.toInt) then
    bif leI (0) (v23.toInt) && ltI (v23.toInt) ((Nat.cast v10.toList.length : Int)) then
      bif leI (0) (v23.toInt) && ltI (v23.toInt) ((Nat.cast v21.toList.length : Int)) then
        let c2 := call 22 [AO.pv (Ty.st 27) (nth default v10.toList v23.toInt.toNat), AO.pv (Ty.st 27) (nth default v21.toList v23.toInt.toNat)]
        bif okRes Ty.bool c2 then
          bif !(resPV c2).toBool then
  some ([AO.pv Ty.bool (PV.bool false)], [])
          else
  L22_10 call k n (v0) (v1) (v2) (v3) (v4) (v5) (v6) (v7) (v8) (v9) (v10) (v11) (v12) (v13) (v14) (v15) (v16) (v17) (v18) (v19) (v20) (v21) (v22) (PV.int IntKind.i64 (IntKind.i64.wrap (v23.toInt + 1)))
        else
          none
      else
        none
    else
      none
  else
  some ([AO.pv Ty.bool (PV.bool true)], []) := by kernel_rfl
theorem L22_4_succ (call : CallF) (k n : Nat) (v0 : PV) (v1 : PV) (v2 : PV) (v3 : PV) (v4 : PV) (v5 : PV) (v6 : PV) (v7 : PV) (v8 : PV) (v9 : PV) (v10 : PV) (v11 : PV) (v12 : PV) (v13 : PV) (v14 : PV) (v15 : PV) (v16 : PV) (v17 : PV) (v18 : PV) (v19 : PV) (v20 : PV) (v21 : PV) (v22 : PV) (v23 : PV) : L22_4 call k (n + 1) v0 v1 v2 v3 v4 v5 v6 v7 v8 v9 v10 v11 v12 v13 v14 v15 v16 v17 v18 v19 v20 v21 v22 v23 =
  bif ltI (v23.toInt) (v22.toInt) then
    bif leI (0) (v23.toInt) && ltI (v23.toInt) ((Nat.cast v4.toList.length : Int)) then
      let c0 := call 34 [AO.pv (Ty.st 38) (nth default v4.toList v23.toInt.toNat)]
      bif okRes (Ty.st 38) c0 then
        bif leI (0) (v23.toInt) && ltI (v23.toInt) ((Nat.cast v15.toList.length : Int)) then
          let c1 := call 34 [AO.pv (Ty.st 38) (nth default v15.toList v23.toInt.toNat)]
          bif okRes (Ty.st 38) c1 then
            bif !(eqI (((resPV c0).cell 0).toInt) (((resPV c1).cell 0).toInt) && eqI (((resPV c0).cell 1).toInt) (((resPV c1).cell 1).toInt)) then
  some ([AO.pv Ty.bool (PV.bool false)], [])
            else
  L22_4 call k n (v0) (v1) (v2) (v3) (v4) (v5) (v6) (v7) (v8) (v9) (v10) (v11) (v12) (v13) (v14) (v15) (v16) (v17) (v18) (v19) (v20) (v21) (v22) (PV.int IntKind.i64 (IntKind.i64.wrap (v23.toInt + 1)))
          else
            none
        else
          none
      else
        none
    else
      none
  else
  L22_10 call k k (v0) (v1) (v2) (v3) (v4) (v5) (v6) (v7) (v8) (v9) (v10) (v11) (v12) (v13) (v14) (v15) (v16) (v17) (v18) (v19) (v20) (v21) (PV.int IntKind.i64 (Nat.cast v10.toList.length : Int)) (PV.int IntKind.i64 0) := by kernel_rfl
theorem R22 (call : CallF) (k : Nat) (x0 : PV) (x1 : PV) : evStep Try.prog H0 call k 22 [AO.pv (Ty.st 27) x0, AO.pv (Ty.st 27) x1] =
  bif !(x0.cell 0).toStr.data.toList == (x1.cell 0).toStr.data.toList then
    some ([AO.pv Ty.bool (PV.bool false)], [])
  else
    bif !(x0.cell 1).toStr.data.toList == (x1.cell 1).toStr.data.toList then
      some ([AO.pv Ty.bool (PV.bool false)], [])
    else
      bif !eqI ((x0.cell 2).toInt) ((x1.cell 2).toInt) then
        some ([AO.pv Ty.bool (PV.bool false)], [])
      else
        bif !eqI ((x0.cell 3).toInt) ((x1.cell 3).toInt) then
          some ([AO.pv Ty.bool (PV.bool false)], [])
        else
          bif !((x0.cell 5).toStr.data.toList == (x1.cell 5).toStr.data.toList && (eqI ((x0.cell 6).toInt) ((x1.cell 6).toInt) && (eqI ((x0.cell 7).toInt) ((x1.cell 7).toInt) && ((x0.cell 8).toStr.data.toList == (x1.cell 8).toStr.data.toList && (x0.cell 9).toStr.data.toList == (x1.cell 9).toStr.data.toList)))) then
            some ([AO.pv Ty.bool (PV.bool false)], [])
          else
            bif !eqI ((Nat.cast (x0.cell 4).toList.length : Int)) ((Nat.cast (x1.cell 4).toList.length : Int)) then
              some ([AO.pv Ty.bool (PV.bool false)], [])
            else
              bif !eqI ((Nat.cast (x0.cell 10).toList.length : Int)) ((Nat.cast (x1.cell 10).toList.length : Int)) then
                some ([AO.pv Ty.bool (PV.bool false)], [])
              else
                L22_4 call k k (x0.cell 0) (x0.cell 1) (x0.cell 2) (x0.cell 3) (x0.cell 4) (x0.cell 5) (x0.cell 6) (x0.cell 7) (x0.cell 8) (x0.cell 9) (x0.cell 10) (x1.cell 0) (x1.cell 1) (x1.cell 2) (x1.cell 3) (x1.cell 4) (x1.cell 5) (x1.cell 6) (x1.cell 7) (x1.cell 8) (x1.cell 9) (x1.cell 10) (PV.int IntKind.i64 (Nat.cast (x0.cell 4).toList.length : Int)) (PV.int IntKind.i64 0) := by kernel_rfl


theorem R23 (call : CallF) (k : Nat) (x0 : PV) (x1 : PV) (x2 : PV) : evStep Try.prog H0 call k 23 [AO.pv Ty.str x0, AO.pv (Ty.st 27) x1, AO.pv (Ty.st 27) x2] =
  let c0 := call 29 [AO.pv (Ty.st 27) (PV.agg [x1.cell 0, x1.cell 1, x1.cell 2, x1.cell 3, x1.cell 4, x1.cell 5, x1.cell 6, x1.cell 7, x1.cell 8, x1.cell 9, x1.cell 10])]
  bif okRes (Ty.st 27) c0 then
    let c1 := call 29 [AO.pv (Ty.st 27) (PV.agg [x2.cell 0, x2.cell 1, x2.cell 2, x2.cell 3, x2.cell 4, x2.cell 5, x2.cell 6, x2.cell 7, x2.cell 8, x2.cell 9, x2.cell 10])]
    bif okRes (Ty.st 27) c1 then
      some ([AO.pv (Ty.st 27) (PV.agg [x0, PV.str { data := #[] }, PV.int IntKind.i64 0, PV.int IntKind.i64 0, PV.sl [], PV.str { data := #[] }, PV.int IntKind.i64 0, PV.int IntKind.i64 0, PV.str { data := #[] }, PV.str { data := #[] }, PV.sl [resPV c1, resPV c0].reverse])], [])
    else
      none
  else
    none := by kernel_rfl


theorem R24 (call : CallF) (k : Nat) (x0 : PV) (x1 : PV) (x2 : PV) : evStep Try.prog H0 call k 24 [AO.pv Ty.str x0, AO.pv (Ty.st 27) x1, AO.pv (Ty.st 27) x2] =
  some ([AO.pv (Ty.st 27) (PV.agg [x0, PV.str { data := #[] }, PV.int IntKind.i64 0, PV.int IntKind.i64 0, PV.sl [], PV.str { data := #[] }, PV.int IntKind.i64 0, PV.int IntKind.i64 0, PV.str { data := #[] }, PV.str { data := #[] }, PV.sl [PV.agg [x2.cell 0, x2.cell 1, x2.cell 2, x2.cell 3, x2.cell 4, x2.cell 5, x2.cell 6, x2.cell 7, x2.cell 8, x2.cell 9, x2.cell 10], PV.agg [x1.cell 0, x1.cell 1, x1.cell 2, x1.cell 3, x1.cell 4, x1.cell 5, x1.cell 6, x1.cell 7, x1.cell 8, x1.cell 9, x1.cell 10]].reverse])], []) := by kernel_rfl

def S25_3 (v0 : PV) (v1 : PV) (v2 : PV) (v3 : PV) (v4 : PV) (v5 : PV) (v6 : PV) (v7 : PV) (v8 : PV) (v9 : PV) (v10 : PV) (v11 : PV) (v12 : PV) : St := [AV.dead, AV.o (AO.box 27 [AO.pv Ty.str v0, AO.pv Ty.str v1, AO.pv (Ty.int IntKind.i64) v2, AO.pv (Ty.int IntKind.i64) v3, AO.pv (Ty.sl 38) v4, AO.pv Ty.str v5, AO.pv (Ty.int IntKind.i64) v6, AO.pv (Ty.int IntKind.i64) v7, AO.pv Ty.str v8, AO.pv Ty.str v9, AO.pv (Ty.sl 27) v10]), AV.dead, AV.o (AO.pv (Ty.int IntKind.i64) v11), AV.o (AO.pv (Ty.int IntKind.i64) v12), AV.dead, AV.dead, AV.dead, AV.dead, AV.dead, AV.dead, AV.dead, AV.dead, AV.dead, AV.dead, AV.dead, AV.dead, AV.dead, AV.dead, AV.dead, AV.dead]
noncomputable def L25_3 (call : CallF) (k n : Nat) (v0 : PV) (v1 : PV) (v2 : PV) (v3 : PV) (v4 : PV) (v5 : PV) (v6 : PV) (v7 : PV) (v8 : PV) (v9 : PV) (v10 : PV) (v11 : PV) (v12 : PV) : R := loopAt Try.prog H0 call k 25 [.b, .b, .a, .b, .blk] n (S25_3 v0 v1 v2 v3 v4 v5 v6 v7 v8 v9 v10 v11 v12) (behind Try.prog H0 call k 25 [.b, .b, .a, .b, .blk])
theorem L25_3_succ (call : CallF) (k n : Nat) (v0 : PV) (v1 : PV) (v2 : PV) (v3 : PV) (v4 : PV) (v5 : PV) (v6 : PV) (v7 : PV) (v8 : PV) (v9 : PV) (v10 : PV) (v11 : PV) (v12 : PV) : L25_3 call k (n + 1) v0 v1 v2 v3 v4 v5 v6 v7 v8 v9 v10 v11 v12 =
  bif ltI (v12.toInt) ((Nat.cast v10.toList.length : Int)) then
    bif leI (0) (v12.toInt) && ltI (v12.toInt) ((Nat.cast v10.toList.length : Int)) then
      let c0 := call 25 [AO.pv (Ty.st 27) (nth default v10.toList v12.toInt.toNat)]
      bif okRes (Ty.int IntKind.i64) c0 then
  L25_3 call k n (v0) (v1) (v2) (v3) (v4) (v5) (v6) (v7) (v8) (v9) (v10) (PV.int IntKind.i64 (IntKind.i64.wrap (v11.toInt + (resPV c0).toInt))) (PV.int IntKind.i64 (IntKind.i64.wrap (v12.toInt + 1)))
      else
        none
    else
      none
  else
  some ([AO.pv (Ty.int IntKind.i64) v11], []) := by kernel_rfl
theorem R25 (call : CallF) (k : Nat) (x0 : PV) : evStep Try.prog H0 call k 25 [AO.pv (Ty.st 27) x0] =
  L25_3 call k k (x0.cell 0) (x0.cell 1) (x0.cell 2) (x0.cell 3) (x0.cell 4) (x0.cell 5) (x0.cell 6) (x0.cell 7) (x0.cell 8) (x0.cell 9) (x0.cell 10) (PV.int IntKind.i64 1) (PV.int IntKind.i64 0) := by kernel_rfl

def S26_4 (v0 : PV) (v1 : PV) (v2 : PV) : St := [AV.dead, AV.dead, AV.dead, AV.dead, AV.dead, AV.dead, AV.dead, AV.dead, AV.dead, AV.dead, AV.dead, AV.dead, AV.dead, AV.dead, AV.dead, AV.dead, AV.dead, AV.dead, AV.dead, AV.dead, AV.dead, AV.dead, AV.o (AO.pv (Ty.sl 27) v0), AV.o (AO.pv (Ty.int IntKind.i64) v1), AV.o (AO.pv (Ty.int IntKind.i64) v2), AV.dead, AV.dead, AV.dead, AV.dead, AV.dead, AV.dead, AV.dead]
noncomputable def L26_4 (call : CallF) (k n : Nat) (v0 : PV) (v1 : PV) (v2 : PV) : R := loopAt Try.prog H0 call k 26 [.b, .b, .a, .b, .blk] n (S26_4 v0 v1 v2) (behind Try.prog H0 call k 26 [.b, .b, .a, .b, .blk])
theorem L26_4_succ (call : CallF) (k n : Nat) (v0 : PV) (v1 : PV) (v2 : PV) : L26_4 call k (n + 1) v0 v1 v2 =
  bif ltI (v2.toInt) (v1.toInt) then
    bif leI (0) (v2.toInt) && ltI (v2.toInt) ((Nat.cast v0.toList.length : Int)) then
      let c0 := call 26 [AO.pv (Ty.st 27) (PV.agg [(nth default v0.toList v2.toInt.toNat).cell 0, (nth default v0.toList v2.toInt.toNat).cell 1, (nth default v0.toList v2.toInt.toNat).cell 2, (nth default v0.toList v2.toInt.toNat).cell 3, (nth default v0.toList v2.toInt.toNat).cell 4, (nth default v0.toList v2.toInt.toNat).cell 5, (nth default v0.toList v2.toInt.toNat).cell 6, (nth default v0.toList v2.toInt.toNat).cell 7, (nth default v0.toList v2.toInt.toNat).cell 8, (nth default v0.toList v2.toInt.toNat).cell 9, (nth default v0.toList v2.toInt.toNat).cell 10])]
      bif okRes Ty.bool c0 then
        bif !(resPV c0).toBool then
  some ([AO.pv Ty.bool (PV.bool false)], [])
        else
  L26_4 call k n (v0) (v1) (PV.int IntKind.i64 (IntKind.i64.wrap (v2.toInt + 1)))
      else
        none
    else
      none
  else
  some ([AO.pv Ty.bool (PV.bool true)], []) := by kernel_rfl
theorem R26 (call : CallF) (k : Nat) (x0 : PV) : evStep Try.prog H0 call k 26 [AO.pv (Ty.st 27) x0] =
  bif ltI (100) ((Nat.cast (x0.cell 1).toStr.size : Int)) then
    some ([AO.pv Ty.bool (PV.bool false)], [])
  else
    bif ltI (100) ((Nat.cast (x0.cell 0).toStr.size : Int)) then
      some ([AO.pv Ty.bool (PV.bool false)], [])
    else
      bif ltI (300) ((Nat.cast (x0.cell 4).toList.length : Int)) then
        some ([AO.pv Ty.bool (PV.bool false)], [])
      else
        L26_4 call k k (x0.cell 10) (PV.int IntKind.i64 (Nat.cast (x0.cell 10).toList.length : Int)) (PV.int IntKind.i64 0) := by kernel_rfl

def S28_3 (v0 : PV) (v1 : PV) (v2 : PV) (v3 : PV) : St := [AV.dead, AV.dead, AV.dead, AV.o (AO.pv (Ty.int IntKind.i64) v0), AV.dead, AV.dead, AV.dead, AV.o (AO.pv (Ty.sl 27) v1), AV.o (AO.pv (Ty.int IntKind.i64) v2), AV.o (AO.pv (Ty.int IntKind.i64) v3), AV.dead, AV.dead, AV.dead, AV.dead, AV.dead, AV.dead, AV.dead, AV.dead, AV.dead]
noncomputable def L28_3 (call : CallF) (k n : Nat) (v0 : PV) (v1 : PV) (v2 : PV) (v3 : PV) : R := loopAt Try.prog H0 call k 28 [.b, .b, .a, .b, .blk] n (S28_3 v0 v1 v2 v3) (behind Try.prog H0 call k 28 [.b, .b, .a, .b, .blk])
theorem L28_3_succ (call : CallF) (k n : Nat) (v0 : PV) (v1 : PV) (v2 : PV) (v3 : PV) : L28_3 call k (n + 1) v0 v1 v2 v3 =
  bif ltI (v3.toInt) (v2.toInt) then
    bif leI (0) (v3.toInt) && ltI (v3.toInt) ((Nat.cast v1.toList.length : Int)) then
      let c0 := call 28 [AO.pv (Ty.st 27) (PV.agg [(nth default v1.toList v3.toInt.toNat).cell 0, (nth default v1.toList v3.toInt.toNat).cell 1, (nth default v1.toList v3.toInt.toNat).cell 2, (nth default v1.toList v3.toInt.toNat).cell 3, (nth default v1.toList v3.toInt.toNat).cell 4, (nth default v1.toList v3.toInt.toNat).cell 5, (nth default v1.toList v3.toInt.toNat).cell 6, (nth default v1.toList v3.toInt.toNat).cell 7, (nth default v1.toList v3.toInt.toNat).cell 8, (nth default v1.toList v3.toInt.toNat).cell 9, (nth default v1.toList v3.toInt.toNat).cell 10])]
      bif okRes (Ty.int IntKind.i64) c0 then
  L28_3 call k n (PV.int IntKind.i64 (IntKind.i64.wrap (v0.toInt + (resPV c0).toInt))) (v1) (v2) (PV.int IntKind.i64 (IntKind.i64.wrap (v3.toInt + 1)))
      else
        none
    else
      none
  else
  some ([AO.pv (Ty.int IntKind.i64) v0], []) := by kernel_rfl
theorem R28 (call : CallF) (k : Nat) (x0 : PV) : evStep Try.prog H0 call k 28 [AO.pv (Ty.st 27) x0] =
  L28_3 call k k (PV.int IntKind.i64 1) (x0.cell 10) (PV.int IntKind.i64 (Nat.cast (x0.cell 10).toList.length : Int)) (PV.int IntKind.i64 0) := by kernel_rfl

def S29_5 (v0 : PV) (v1 : PV) (v2 : PV) (v3 : PV) (v4 : List PV) (v5 : PV) (v6 : PV) (v7 : PV) (v8 : PV) (v9 : PV) (v10 : List PV) (v11 : PV) (v12 : PV) (v13 : PV) (v14 : PV) (v15 : List PV) (v16 : PV) (v17 : PV) (v18 : PV) (v19 : PV) (v20 : PV) (v21 : List PV) (v22 : PV) (v23 : PV) (v24 : PV) : St := [AV.dead, AV.dead, AV.o (AO.box 27 [AO.pv Ty.str v0, AO.pv Ty.str v1, AO.pv (Ty.int IntKind.i64) v2, AO.pv (Ty.int IntKind.i64) v3, AO.arr 38 v4, AO.pv Ty.str v5, AO.pv (Ty.int IntKind.i64) v6, AO.pv (Ty.int IntKind.i64) v7, AO.pv Ty.str v8, AO.pv Ty.str v9, AO.arr 27 v10]), AV.o (AO.box 27 [AO.pv Ty.str v11, AO.pv Ty.str v12, AO.pv (Ty.int IntKind.i64) v13, AO.pv (Ty.int IntKind.i64) v14, AO.arr 38 v15, AO.pv Ty.str v16, AO.pv (Ty.int IntKind.i64) v17, AO.pv (Ty.int IntKind.i64) v18, AO.pv Ty.str v19, AO.pv Ty.str v20, AO.arr 27 v21]), AV.dead, AV.dead, AV.dead, AV.dead, AV.dead, AV.dead, AV.dead, AV.dead, AV.dead, AV.o (AO.pv (Ty.sl 27) v22), AV.o (AO.pv (Ty.int IntKind.i64) v23), AV.o (AO.pv (Ty.int IntKind.i64) v24), AV.dead, AV.dead, AV.dead, AV.dead, AV.dead, AV.dead, AV.dead, AV.dead, AV.dead, AV.dead, AV.dead, AV.dead]
noncomputable def L29_5 (call : CallF) (k n : Nat) (v0 : PV) (v1 : PV) (v2 : PV) (v3 : PV) (v4 : List PV) (v5 : PV) (v6 : PV) (v7 : PV) (v8 : PV) (v9 : PV) (v10 : List PV) (v11 : PV) (v12 : PV) (v13 : PV) (v14 : PV) (v15 : List PV) (v16 : PV) (v17 : PV) (v18 : PV) (v19 : PV) (v20 : PV) (v21 : List PV) (v22 : PV) (v23 : PV) (v24 : PV) : R := loopAt Try.prog H0 call k 29 [.b, .b, .b, .b, .a, .b, .blk] n (S29_5 v0 v1 v2 v3 v4 v5 v6 v7 v8 v9 v10 v11 v12 v13 v14 v15 v16 v17 v18 v19 v20 v21 v22 v23 v24) (behind Try.prog H0 call k 29 [.b, .b, .b, .b, .a, .b, .blk])
theorem L29_5_succ (call : CallF) (k n : Nat) (v0 : PV) (v1 : PV) (v2 : PV) (v3 : PV) (v4 : List PV) (v5 : PV) (v6 : PV) (v7 : PV) (v8 : PV) (v9 : PV) (v10 : List PV) (v11 : PV) (v12 : PV) (v13 : PV) (v14 : PV) (v15 : List PV) (v16 : PV) (v17 : PV) (v18 : PV) (v19 : PV) (v20 : PV) (v21 : List PV) (v22 : PV) (v23 : PV) (v24 : PV) : L29_5 call k (n + 1) v0 v1 v2 v3 v4 v5 v6 v7 v8 v9 v10 v11 v12 v13 v14 v15 v16 v17 v18 v19 v20 v21 v22 v23 v24 =
  bif ltI (v24.toInt) (v23.toInt) then
    bif leI (0) (v24.toInt) && ltI (v24.toInt) ((Nat.cast v22.toList.length : Int)) then
      let c0 := call 29 [AO.pv (Ty.st 27) (PV.agg [(nth default v22.toList v24.toInt.toNat).cell 0, (nth default v22.toList v24.toInt.toNat).cell 1, (nth default v22.toList v24.toInt.toNat).cell 2, (nth default v22.toList v24.toInt.toNat).cell 3, (nth default v22.toList v24.toInt.toNat).cell 4, (nth default v22.toList v24.toInt.toNat).cell 5, (nth default v22.toList v24.toInt.toNat).cell 6, (nth default v22.toList v24.toInt.toNat).cell 7, (nth default v22.toList v24.toInt.toNat).cell 8, (nth default v22.toList v24.toInt.toNat).cell 9, (nth default v22.toList v24.toInt.toNat).cell 10])]
      bif okRes (Ty.st 27) c0 then
        bif Nat.beq 27 27 && leN ((v21.length + [resPV c0].reverse.length) * 160) (room) then
  L29_5 call k n (v0) (v1) (v2) (v3) (v4) (v5) (v6) (v7) (v8) (v9) (v10) (v11) (v12) (v13) (v14) (v15) (v16) (v17) (v18) (v19) (v20) (v21 ++ [resPV c0].reverse) (v22) (v23) (PV.int IntKind.i64 (IntKind.i64.wrap (v24.toInt + 1)))
        else
          none
      else
        none
    else
      none
  else
  some ([AO.pv (Ty.st 27) (PV.agg [v11, v12, v13, v14, PV.sl v15, v16, v17, v18, v19, v20, PV.sl v21])], []) := by kernel_rfl
theorem R29 (call : CallF) (k : Nat) (x0 : PV) : evStep Try.prog H0 call k 29 [AO.pv (Ty.st 27) x0] =
  bif leN ((x0.cell 4).toList.length * 16) (room) then
    L29_5 call k k (PV.str { data := #[] }) (PV.str { data := #[] }) (PV.int IntKind.i64 0) (PV.int IntKind.i64 0) ([]) (PV.str { data := #[] }) (PV.int IntKind.i64 0) (PV.int IntKind.i64 0) (PV.str { data := #[] }) (PV.str { data := #[] }) ([]) (x0.cell 0) (x0.cell 1) (x0.cell 2) (x0.cell 3) ((x0.cell 4).toList) (x0.cell 5) (x0.cell 6) (x0.cell 7) (x0.cell 8) (x0.cell 9) ([]) (x0.cell 10) (PV.int IntKind.i64 (Nat.cast (x0.cell 10).toList.length : Int)) (PV.int IntKind.i64 0)
  else
    none := by kernel_rfl

def S31_4 (v0 : PV) (v1 : PV) (v2 : PV) : St := [AV.o (AO.pv (Ty.sl 38) v0), AV.o (AO.pv (Ty.sl 38) v1), AV.dead, AV.dead, AV.dead, AV.o (AO.pv (Ty.int IntKind.i64) v2), AV.dead, AV.dead, AV.dead, AV.dead, AV.dead, AV.dead, AV.dead, AV.dead, AV.dead, AV.dead, AV.dead, AV.dead, AV.dead, AV.dead, AV.dead, AV.dead, AV.dead, AV.dead, AV.dead, AV.dead, AV.dead, AV.dead, AV.dead, AV.dead, AV.dead, AV.dead, AV.dead, AV.dead, AV.dead, AV.dead, AV.dead, AV.dead, AV.dead, AV.dead]
noncomputable def L31_4 (call : CallF) (k n : Nat) (v0 : PV) (v1 : PV) (v2 : PV) : R := loopAt Try.prog H0 call k 31 [.b, .b, .a, .b, .blk] n (S31_4 v0 v1 v2) (behind Try.prog H0 call k 31 [.b, .b, .a, .b, .blk])
theorem L31_4_succ (call : CallF) (k n : Nat) (v0 : PV) (v1 : PV) (v2 : PV) : L31_4 call k (n + 1) v0 v1 v2 =
  bif ltI (v2.toInt) ((Nat.cast v0.toList.length : Int)) then
    bif leI (0) (v2.toInt) && ltI (v2.toInt) ((Nat.cast v0.toList.length : Int)) then
      bif leI (0) (v2.toInt) && ltI (v2.toInt) ((Nat.cast v1.toList.length : Int)) then
        bif !(eqI (((nth default v0.toList v2.toInt.toNat).cell 0).toInt) (((nth default v1.toList v2.toInt.toNat).cell 0).toInt) && eqI (((nth default v0.toList v2.toInt.toNat).cell 1).toInt) (((nth default v1.toList v2.toInt.toNat).cell 1).toInt)) then
          bif leI (0) (v2.toInt) && ltI (v2.toInt) ((Nat.cast v0.toList.length : Int)) then
            let c0 := call 40 [AO.pv (Ty.st 38) (nth default v0.toList v2.toInt.toNat)]
            bif okRes Ty.bool c0 then
              bif (resPV c0).toBool then
                bif (resPV c0).toBool then
                  bif !(eqI (((nth default v0.toList v2.toInt.toNat).cell 0).toInt) (((nth default v1.toList v2.toInt.toNat).cell 0).toInt) && eqI (((nth default v0.toList v2.toInt.toNat).cell 1).toInt) (((nth default v1.toList v2.toInt.toNat).cell 1).toInt)) then
  some ([AO.pv Ty.bool (PV.bool false)], [])
                  else
  L31_4 call k n (v0) (v1) (PV.int IntKind.i64 (IntKind.i64.wrap (v2.toInt + 1)))
                else
                  none
              else
                bif leI (0) (v2.toInt) && ltI (v2.toInt) ((Nat.cast v1.toList.length : Int)) then
                  let c1 := call 40 [AO.pv (Ty.st 38) (nth default v1.toList v2.toInt.toNat)]
                  bif okRes Ty.bool c1 then
                    bif (resPV c0).toBool then
                      bif !(eqI (((nth default v0.toList v2.toInt.toNat).cell 0).toInt) (((nth default v1.toList v2.toInt.toNat).cell 0).toInt) && eqI (((nth default v0.toList v2.toInt.toNat).cell 1).toInt) (((nth default v1.toList v2.toInt.toNat).cell 1).toInt)) then
  some ([AO.pv Ty.bool (PV.bool false)], [])
                      else
  L31_4 call k n (v0) (v1) (PV.int IntKind.i64 (IntKind.i64.wrap (v2.toInt + 1)))
                    else
                      bif !(eqI (((nth default v0.toList v2.toInt.toNat).cell 0).toInt) (((nth default v1.toList v2.toInt.toNat).cell 0).toInt) && eqI (((nth default v0.toList v2.toInt.toNat).cell 1).toInt) (((nth default v1.toList v2.toInt.toNat).cell 1).toInt)) then
                        bif (resPV c1).toBool then
  some ([AO.pv Ty.bool (PV.bool false)], [])
                        else
  L31_4 call k n (v0) (v1) (PV.int IntKind.i64 (IntKind.i64.wrap (v2.toInt + 1)))
                      else
  L31_4 call k n (v0) (v1) (PV.int IntKind.i64 (IntKind.i64.wrap (v2.toInt + 1)))
                  else
                    none
                else
                  none
            else
              none
          else
            none
        else
          bif !(eqI (((nth default v0.toList v2.toInt.toNat).cell 0).toInt) (((nth default v1.toList v2.toInt.toNat).cell 0).toInt) && eqI (((nth default v0.toList v2.toInt.toNat).cell 1).toInt) (((nth default v1.toList v2.toInt.toNat).cell 1).toInt)) then
            none
          else
  L31_4 call k n (v0) (v1) (PV.int IntKind.i64 (IntKind.i64.wrap (v2.toInt + 1)))
      else
        none
    else
      none
  else
  some ([AO.pv Ty.bool (PV.bool true)], []) := by kernel_rfl
theorem R31 (call : CallF) (k : Nat) (x0 : PV) (x1 : PV) : evStep Try.prog H0 call k 31 [AO.pv (Ty.sl 38) x0, AO.pv (Ty.sl 38) x1] =
  bif !eqI ((Nat.cast x0.toList.length : Int)) ((Nat.cast x1.toList.length : Int)) then
    some ([AO.pv Ty.bool (PV.bool false)], [])
  else
    L31_4 call k k (x0) (x1) (PV.int IntKind.i64 0) := by kernel_rfl

def S32_5 (v0 : PV) (v1 : PV) (v2 : PV) (v3 : PV) (v4 : PV) (v5 : List PV) (v6 : PV) (v7 : PV) (v8 : PV) (v9 : PV) (v10 : PV) (v11 : List PV) (v12 : PV) (v13 : PV) (v14 : PV) (v15 : PV) (v16 : PV) (v17 : PV) (v18 : PV) (v19 : PV) (v20 : PV) (v21 : PV) (v22 : PV) (v23 : PV) (v24 : PV) (v25 : PV) : St := [AV.o (AO.pv Ty.str v0), AV.dead, AV.dead, AV.dead, AV.o (AO.box 27 [AO.pv Ty.str v1, AO.pv Ty.str v2, AO.pv (Ty.int IntKind.i64) v3, AO.pv (Ty.int IntKind.i64) v4, AO.arr 38 v5, AO.pv Ty.str v6, AO.pv (Ty.int IntKind.i64) v7, AO.pv (Ty.int IntKind.i64) v8, AO.pv Ty.str v9, AO.pv Ty.str v10, AO.arr 27 v11]), AV.o (AO.box 27 [AO.pv Ty.str v12, AO.pv Ty.str v13, AO.pv (Ty.int IntKind.i64) v14, AO.pv (Ty.int IntKind.i64) v15, AO.pv (Ty.sl 38) v16, AO.pv Ty.str v17, AO.pv (Ty.int IntKind.i64) v18, AO.pv (Ty.int IntKind.i64) v19, AO.pv Ty.str v20, AO.pv Ty.str v21, AO.pv (Ty.sl 27) v22]), AV.dead, AV.dead, AV.dead, AV.dead, AV.dead, AV.dead, AV.dead, AV.dead, AV.dead, AV.dead, AV.dead, AV.o (AO.pv (Ty.sl 27) v23), AV.o (AO.pv (Ty.int IntKind.i64) v24), AV.o (AO.pv (Ty.int IntKind.i64) v25), AV.dead, AV.dead, AV.dead, AV.dead, AV.dead, AV.dead, AV.dead, AV.dead, AV.dead, AV.dead, AV.dead]
noncomputable def L32_5 (call : CallF) (k n : Nat) (v0 : PV) (v1 : PV) (v2 : PV) (v3 : PV) (v4 : PV) (v5 : List PV) (v6 : PV) (v7 : PV) (v8 : PV) (v9 : PV) (v10 : PV) (v11 : List PV) (v12 : PV) (v13 : PV) (v14 : PV) (v15 : PV) (v16 : PV) (v17 : PV) (v18 : PV) (v19 : PV) (v20 : PV) (v21 : PV) (v22 : PV) (v23 : PV) (v24 : PV) (v25 : PV) : R := loopAt Try.prog H0 call k 32 [.b, .b, .b, .a, .b, .blk] n (S32_5 v0 v1 v2 v3 v4 v5 v6 v7 v8 v9 v10 v11 v12 v13 v14 v15 v16 v17 v18 v19 v20 v21 v22 v23 v24 v25) (behind Try.prog H0 call k 32 [.b, .b, .b, .a, .b, .blk])
theorem L32_5_succ (call : CallF) (k n : Nat) (v0 : PV) (v1 : PV) (v2 : PV) (v3 : PV) (v4 : PV) (v5 : List PV) (v6 : PV) (v7 : PV) (v8 : PV) (v9 : PV) (v10 : PV) (v11 : List PV) (v12 : PV) (v13 : PV) (v14 : PV) (v15 : PV) (v16 : PV) (v17 : PV) (v18 : PV) (v19 : PV) (v20 : PV) (v21 : PV) (v22 : PV) (v23 : PV) (v24 : PV) (v25 : PV) : L32_5 call k (n + 1) v0 v1 v2 v3 v4 v5 v6 v7 v8 v9 v10 v11 v12 v13 v14 v15 v16 v17 v18 v19 v20 v21 v22 v23 v24 v25 =
  bif ltI (v25.toInt) (v24.toInt) then
    bif leI (0) (v25.toInt) && ltI (v25.toInt) ((Nat.cast v23.toList.length : Int)) then
      let c1 := call 29 [AO.pv (Ty.st 27) (PV.agg [(nth default v23.toList v25.toInt.toNat).cell 0, (nth default v23.toList v25.toInt.toNat).cell 1, (nth default v23.toList v25.toInt.toNat).cell 2, (nth default v23.toList v25.toInt.toNat).cell 3, (nth default v23.toList v25.toInt.toNat).cell 4, (nth default v23.toList v25.toInt.toNat).cell 5, (nth default v23.toList v25.toInt.toNat).cell 6, (nth default v23.toList v25.toInt.toNat).cell 7, (nth default v23.toList v25.toInt.toNat).cell 8, (nth default v23.toList v25.toInt.toNat).cell 9, (nth default v23.toList v25.toInt.toNat).cell 10])]
      bif okRes (Ty.st 27) c1 then
  L32_5 call k n (v0) (v1) (v2) (v3) (v4) (v5) (v6) (v7) (v8) (v9) (v10) (v11) (v0) (PV.str { data := #[] }) (PV.int IntKind.i64 0) (PV.int IntKind.i64 0) (PV.sl []) (PV.str { data := #[] }) (PV.int IntKind.i64 0) (PV.int IntKind.i64 0) (PV.str { data := #[] }) (PV.str { data := #[] }) (PV.sl [resPV c1, PV.agg [v12, v13, v14, v15, v16, v17, v18, v19, v20, v21, v22]].reverse) (v23) (v24) (PV.int IntKind.i64 (IntKind.i64.wrap (v25.toInt + 1)))
      else
        none
    else
      none
  else
  some ([AO.pv (Ty.st 27) (PV.agg [v12, v13, v14, v15, v16, v17, v18, v19, v20, v21, v22])], []) := by kernel_rfl
theorem R32 (call : CallF) (k : Nat) (x0 : PV) (x1 : PV) : evStep Try.prog H0 call k 32 [AO.pv Ty.str x0, AO.pv (Ty.sl 27) x1] =
  bif eqI ((Nat.cast x1.toList.length : Int)) (0) then
    some ([AO.pv (Ty.st 27) (PV.agg [PV.str { data := #[] }, PV.str { data := #[] }, PV.int IntKind.i64 0, PV.int IntKind.i64 0, PV.sl [], PV.str { data := #[] }, PV.int IntKind.i64 0, PV.int IntKind.i64 0, PV.str { data := #[] }, PV.str { data := #[] }, PV.sl []])], [])
  else
    bif leI (0) (0) && ltI (0) ((Nat.cast x1.toList.length : Int)) then
      let c0 := call 29 [AO.pv (Ty.st 27) (nth default x1.toList 0)]
      bif okRes (Ty.st 27) c0 then
        bif (Try.prog.info? 27).isSome && (leI (0) (1) && (leI (1) ((Nat.cast x1.toList.length : Int)) && leI ((Nat.cast x1.toList.length : Int)) ((Nat.cast x1.toList.length : Int)))) then
          L32_5 call k k (x0) (PV.str { data := #[] }) (PV.str { data := #[] }) (PV.int IntKind.i64 0) (PV.int IntKind.i64 0) ([]) (PV.str { data := #[] }) (PV.int IntKind.i64 0) (PV.int IntKind.i64 0) (PV.str { data := #[] }) (PV.str { data := #[] }) ([]) ((resPV c0).cell 0) ((resPV c0).cell 1) ((resPV c0).cell 2) ((resPV c0).cell 3) ((resPV c0).cell 4) ((resPV c0).cell 5) ((resPV c0).cell 6) ((resPV c0).cell 7) ((resPV c0).cell 8) ((resPV c0).cell 9) ((resPV c0).cell 10) (PV.sl (List.drop 1 (List.take ((Nat.cast x1.toList.length : Int)).toNat x1.toList))) (PV.int IntKind.i64 (Nat.cast (List.drop 1 (List.take ((Nat.cast x1.toList.length : Int)).toNat x1.toList)).length : Int)) (PV.int IntKind.i64 0)
        else
          none
      else
        none
    else
      none := by kernel_rfl

def S33_5 (v0 : PV) (v1 : PV) (v2 : PV) (v3 : PV) (v4 : PV) (v5 : PV) (v6 : List PV) (v7 : PV) (v8 : PV) (v9 : PV) (v10 : PV) (v11 : PV) (v12 : List PV) (v13 : PV) (v14 : PV) (v15 : PV) (v16 : PV) (v17 : PV) (v18 : PV) (v19 : PV) (v20 : PV) (v21 : PV) (v22 : PV) (v23 : PV) (v24 : PV) : St := [AV.o (AO.pv Ty.str v0), AV.o (AO.pv (Ty.sl 27) v1), AV.dead, AV.dead, AV.o (AO.box 27 [AO.pv Ty.str v2, AO.pv Ty.str v3, AO.pv (Ty.int IntKind.i64) v4, AO.pv (Ty.int IntKind.i64) v5, AO.arr 38 v6, AO.pv Ty.str v7, AO.pv (Ty.int IntKind.i64) v8, AO.pv (Ty.int IntKind.i64) v9, AO.pv Ty.str v10, AO.pv Ty.str v11, AO.arr 27 v12]), AV.o (AO.box 27 [AO.pv Ty.str v13, AO.pv Ty.str v14, AO.pv (Ty.int IntKind.i64) v15, AO.pv (Ty.int IntKind.i64) v16, AO.pv (Ty.sl 38) v17, AO.pv Ty.str v18, AO.pv (Ty.int IntKind.i64) v19, AO.pv (Ty.int IntKind.i64) v20, AO.pv Ty.str v21, AO.pv Ty.str v22, AO.pv (Ty.sl 27) v23]), AV.o (AO.pv (Ty.int IntKind.i64) v24), AV.dead, AV.dead, AV.dead, AV.dead, AV.dead, AV.dead, AV.dead, AV.dead, AV.dead, AV.dead, AV.dead, AV.dead, AV.dead, AV.dead, AV.dead, AV.dead, AV.dead, AV.dead, AV.dead, AV.dead, AV.dead]
noncomputable def L33_5 (call : CallF) (k n : Nat) (v0 : PV) (v1 : PV) (v2 : PV) (v3 : PV) (v4 : PV) (v5 : PV) (v6 : List PV) (v7 : PV) (v8 : PV) (v9 : PV) (v10 : PV) (v11 : PV) (v12 : List PV) (v13 : PV) (v14 : PV) (v15 : PV) (v16 : PV) (v17 : PV) (v18 : PV) (v19 : PV) (v20 : PV) (v21 : PV) (v22 : PV) (v23 : PV) (v24 : PV) : R := loopAt Try.prog H0 call k 33 [.b, .b, .b, .a, .b, .blk] n (S33_5 v0 v1 v2 v3 v4 v5 v6 v7 v8 v9 v10 v11 v12 v13 v14 v15 v16 v17 v18 v19 v20 v21 v22 v23 v24) (behind Try.prog H0 call k 33 [.b, .b, .b, .a, .b, .blk])
theorem L33_5_succ (call : CallF) (k n : Nat) (v0 : PV) (v1 : PV) (v2 : PV) (v3 : PV) (v4 : PV) (v5 : PV) (v6 : List PV) (v7 : PV) (v8 : PV) (v9 : PV) (v10 : PV) (v11 : PV) (v12 : List PV) (v13 : PV) (v14 : PV) (v15 : PV) (v16 : PV) (v17 : PV) (v18 : PV) (v19 : PV) (v20 : PV) (v21 : PV) (v22 : PV) (v23 : PV) (v24 : PV) : L33_5 call k (n + 1) v0 v1 v2 v3 v4 v5 v6 v7 v8 v9 v10 v11 v12 v13 v14 v15 v16 v17 v18 v19 v20 v21 v22 v23 v24 =
  bif ltI (v24.toInt) ((Nat.cast v1.toList.length : Int)) then
    bif leI (0) (v24.toInt) && ltI (v24.toInt) ((Nat.cast v1.toList.length : Int)) then
      let c0 := call 24 [AO.pv Ty.str v0, AO.pv (Ty.st 27) (PV.agg [v13, v14, v15, v16, v17, v18, v19, v20, v21, v22, v23]), AO.pv (Ty.st 27) (nth default v1.toList v24.toInt.toNat)]
      bif okRes (Ty.st 27) c0 then
  L33_5 call k n (v0) (v1) (v2) (v3) (v4) (v5) (v6) (v7) (v8) (v9) (v10) (v11) (v12) ((resPV c0).cell 0) ((resPV c0).cell 1) ((resPV c0).cell 2) ((resPV c0).cell 3) ((resPV c0).cell 4) ((resPV c0).cell 5) ((resPV c0).cell 6) ((resPV c0).cell 7) ((resPV c0).cell 8) ((resPV c0).cell 9) ((resPV c0).cell 10) (PV.int IntKind.i64 (IntKind.i64.wrap (v24.toInt + 1)))
      else
        none
    else
      none
  else
  some ([AO.pv (Ty.st 27) (PV.agg [v13, v14, v15, v16, v17, v18, v19, v20, v21, v22, v23])], []) := by kernel_rfl
theorem R33 (call : CallF) (k : Nat) (x0 : PV) (x1 : PV) : evStep Try.prog H0 call k 33 [AO.pv Ty.str x0, AO.pv (Ty.sl 27) x1] =
  bif eqI ((Nat.cast x1.toList.length : Int)) (0) then
    some ([AO.pv (Ty.st 27) (PV.agg [PV.str { data := #[] }, PV.str { data := #[] }, PV.int IntKind.i64 0, PV.int IntKind.i64 0, PV.sl [], PV.str { data := #[] }, PV.int IntKind.i64 0, PV.int IntKind.i64 0, PV.str { data := #[] }, PV.str { data := #[] }, PV.sl []])], [])
  else
    bif leI (0) (0) && ltI (0) ((Nat.cast x1.toList.length : Int)) then
      L33_5 call k k (x0) (x1) (PV.str { data := #[] }) (PV.str { data := #[] }) (PV.int IntKind.i64 0) (PV.int IntKind.i64 0) ([]) (PV.str { data := #[] }) (PV.int IntKind.i64 0) (PV.int IntKind.i64 0) (PV.str { data := #[] }) (PV.str { data := #[] }) ([]) ((nth default x1.toList 0).cell 0) ((nth default x1.toList 0).cell 1) ((nth default x1.toList 0).cell 2) ((nth default x1.toList 0).cell 3) ((nth default x1.toList 0).cell 4) ((nth default x1.toList 0).cell 5) ((nth default x1.toList 0).cell 6) ((nth default x1.toList 0).cell 7) ((nth default x1.toList 0).cell 8) ((nth default x1.toList 0).cell 9) ((nth default x1.toList 0).cell 10) (PV.int IntKind.i64 1)
    else
      none := by kernel_rfl


theorem R34 (call : CallF) (k : Nat) (x0 : PV) : evStep Try.prog H0 call k 34 [AO.pv (Ty.st 38) x0] =
  let c0 := call 41 [AO.pv (Ty.st 38) (PV.agg [x0.cell 0, x0.cell 1])]
  bif okRes Ty.bool c0 then
    bif !(resPV c0).toBool then
      some ([AO.pv (Ty.st 38) (PV.agg [PV.int IntKind.i64 0, PV.int IntKind.i64 0])], [])
    else
      some ([AO.pv (Ty.st 38) (PV.agg [x0.cell 0, x0.cell 1])], [])
  else
    none := by kernel_rfl


theorem R40 (call : CallF) (k : Nat) (x0 : PV) : evStep Try.prog H0 call k 40 [AO.pv (Ty.st 38) x0] =
  bif leI (1) ((x0.cell 1).toInt) then
    bif leI ((x0.cell 1).toInt) (1073741824) then
      bif leI (-1073741824) ((x0.cell 0).toInt) then
        bif leI ((x0.cell 0).toInt) (1073741824) then
          let c0 := call 47 [AO.pv (Ty.int IntKind.i64) (x0.cell 0), AO.pv (Ty.int IntKind.i64) (x0.cell 1)]
          bif okRes (Ty.int IntKind.i64) c0 then
            some ([AO.pv Ty.bool (PV.bool (eqI ((resPV c0).toInt) (1)))], [])
          else
            none
        else
          some ([AO.pv Ty.bool (PV.bool false)], [])
      else
        some ([AO.pv Ty.bool (PV.bool false)], [])
    else
      some ([AO.pv Ty.bool (PV.bool false)], [])
  else
    some ([AO.pv Ty.bool (PV.bool false)], []) := by kernel_rfl


theorem R41 (call : CallF) (k : Nat) (x0 : PV) : evStep Try.prog H0 call k 41 [AO.pv (Ty.st 38) x0] =
  bif leI (1) ((x0.cell 1).toInt) then
    bif leI (1) ((x0.cell 1).toInt) then
      bif leI ((x0.cell 1).toInt) (1073741824) then
        bif leI ((x0.cell 1).toInt) (1073741824) then
          bif leI (-1073741824) ((x0.cell 0).toInt) then
            bif leI (-1073741824) ((x0.cell 0).toInt) then
              bif leI ((x0.cell 0).toInt) (1073741824) then
                let c0 := call 49 [AO.pv (Ty.int IntKind.i64) (x0.cell 0)]
                bif okRes (Ty.int IntKind.u64) c0 then
                  let c1 := call 49 [AO.pv (Ty.int IntKind.i64) (x0.cell 1)]
                  bif okRes (Ty.int IntKind.u64) c1 then
                    let c2 := call 48 [AO.pv (Ty.int IntKind.u64) (resPV c0), AO.pv (Ty.int IntKind.u64) (resPV c1)]
                    bif okRes (Ty.int IntKind.u64) c2 then
                      bif leI ((x0.cell 0).toInt) (1073741824) then
                        some ([AO.pv Ty.bool (PV.bool (eqI ((resPV c2).toInt) (1)))], [])
                      else
                        some ([AO.pv Ty.bool (PV.bool false)], [])
                    else
                      none
                  else
                    none
                else
                  none
              else
                bif leI ((x0.cell 0).toInt) (1073741824) then
                  none
                else
                  some ([AO.pv Ty.bool (PV.bool false)], [])
            else
              some ([AO.pv Ty.bool (PV.bool false)], [])
          else
            bif leI (-1073741824) ((x0.cell 0).toInt) then
              none
            else
              some ([AO.pv Ty.bool (PV.bool false)], [])
        else
          some ([AO.pv Ty.bool (PV.bool false)], [])
      else
        bif leI ((x0.cell 1).toInt) (1073741824) then
          none
        else
          some ([AO.pv Ty.bool (PV.bool false)], [])
    else
      some ([AO.pv Ty.bool (PV.bool false)], [])
  else
    bif leI (1) ((x0.cell 1).toInt) then
      none
    else
      some ([AO.pv Ty.bool (PV.bool false)], []) := by kernel_rfl

def S47_5 (v0 : PV) (v1 : PV) : St := [AV.o (AO.pv (Ty.int IntKind.i64) v0), AV.o (AO.pv (Ty.int IntKind.i64) v1), AV.dead, AV.dead, AV.dead, AV.dead, AV.dead, AV.dead, AV.dead, AV.dead, AV.dead, AV.dead, AV.dead, AV.dead, AV.dead, AV.dead, AV.dead, AV.dead, AV.dead, AV.dead, AV.dead, AV.dead]
noncomputable def L47_5 (call : CallF) (k n : Nat) (v0 : PV) (v1 : PV) : R := loopAt Try.prog H0 call k 47 [.b, .b, .b, .a, .blk] n (S47_5 v0 v1) (behind Try.prog H0 call k 47 [.b, .b, .b, .a, .blk])
theorem L47_5_succ (call : CallF) (k n : Nat) (v0 : PV) (v1 : PV) : L47_5 call k (n + 1) v0 v1 =
  bif !eqI (v1.toInt) (0) then
    bif eqI (v1.toInt) (0) then
      none
    else
  L47_5 call k n (v1) (PV.int IntKind.i64 (v0.toInt.tmod v1.toInt))
  else
  some ([AO.pv (Ty.int IntKind.i64) v0], []) := by kernel_rfl
theorem R47 (call : CallF) (k : Nat) (x0 : PV) (x1 : PV) : evStep Try.prog H0 call k 47 [AO.pv (Ty.int IntKind.i64) x0, AO.pv (Ty.int IntKind.i64) x1] =
  bif ltI (x0.toInt) (0) then
    bif ltI (x1.toInt) (0) then
      L47_5 call k k (PV.int IntKind.i64 (IntKind.i64.wrap (0 - x0.toInt))) (PV.int IntKind.i64 (IntKind.i64.wrap (0 - x1.toInt)))
    else
      L47_5 call k k (PV.int IntKind.i64 (IntKind.i64.wrap (0 - x0.toInt))) (x1)
  else
    bif ltI (x1.toInt) (0) then
      L47_5 call k k (x0) (PV.int IntKind.i64 (IntKind.i64.wrap (0 - x1.toInt)))
    else
      L47_5 call k k (x0) (x1) := by kernel_rfl

def S48_1 (v0 : PV) (v1 : PV) : St := [AV.o (AO.pv (Ty.int IntKind.u64) v0), AV.o (AO.pv (Ty.int IntKind.u64) v1), AV.dead, AV.dead, AV.dead, AV.dead, AV.dead, AV.dead, AV.dead, AV.dead, AV.dead, AV.dead]
noncomputable def L48_1 (call : CallF) (k n : Nat) (v0 : PV) (v1 : PV) : R := loopAt Try.prog H0 call k 48 [.b, .a, .blk] n (S48_1 v0 v1) (behind Try.prog H0 call k 48 [.b, .a, .blk])
theorem L48_1_succ (call : CallF) (k n : Nat) (v0 : PV) (v1 : PV) : L48_1 call k (n + 1) v0 v1 =
  bif !eqI (v1.toInt) (0) then
    bif eqI (v1.toInt) (0) then
      none
    else
  L48_1 call k n (v1) (PV.int IntKind.u64 (v0.toInt.tmod v1.toInt))
  else
  some ([AO.pv (Ty.int IntKind.u64) v0], []) := by kernel_rfl
theorem R48 (call : CallF) (k : Nat) (x0 : PV) (x1 : PV) : evStep Try.prog H0 call k 48 [AO.pv (Ty.int IntKind.u64) x0, AO.pv (Ty.int IntKind.u64) x1] =
  L48_1 call k k (x0) (x1) := by kernel_rfl


theorem R49 (call : CallF) (k : Nat) (x0 : PV) : evStep Try.prog H0 call k 49 [AO.pv (Ty.int IntKind.i64) x0] =
  bif ltI (x0.toInt) (0) then
    some ([AO.pv (Ty.int IntKind.u64) (PV.int IntKind.u64 (IntKind.u64.wrap (0 - IntKind.u64.wrap x0.toInt)))], [])
  else
    some ([AO.pv (Ty.int IntKind.u64) (PV.int IntKind.u64 (IntKind.u64.wrap x0.toInt))], []) := by kernel_rfl

end Go.V
