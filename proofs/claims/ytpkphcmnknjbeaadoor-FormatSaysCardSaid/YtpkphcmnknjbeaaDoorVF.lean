/- What the evaluator makes of the law's further functions, each as an equation of its own with its calls left open. Conditions: none. -/
import Derived.Test.YtpkphcmnknjbeaaDoorVH
set_option maxRecDepth 100000
set_option linter.unusedVariables false
namespace Go.V
open Go.Proofs
def SJ3_4 (v0 v1 v2 v3 v4 v5 v6 v7 v8 v9 v10 v11 v12 v13 : PV) : St := [dd, dd, dd, AV.o (AO.box 23 [AO.pv Ty.str v0, AO.pv (Ty.int IntKind.i64) v1, AO.pv (Ty.int IntKind.i64) v2, AO.pv Ty.str v3, AO.pv Ty.str v4]), AV.o (AO.box 25 [AO.pv (Ty.int IntKind.i64) v5, AO.pv (Ty.int IntKind.i64) v6]), AV.o (AO.box 25 [AO.pv (Ty.int IntKind.i64) v7, AO.pv (Ty.int IntKind.i64) v8]), dd, AV.o (AO.box 25 [AO.pv (Ty.int IntKind.i64) v9, AO.pv (Ty.int IntKind.i64) v10]), AV.o (AO.box 25 [AO.pv (Ty.int IntKind.i64) v11, AO.pv (Ty.int IntKind.i64) v12]), dd, dd, dd, dd, dd, dd, dd, dd, dd, dd, dd, dd, dd, dd, dd, dd, dd, dd, dd, dd, dd, dd, dd, dd, AV.o (AO.pv Ty.bool v13), dd, dd, dd, dd, dd, dd, dd, dd, dd, dd, dd, dd, dd, dd, dd, dd, dd, dd, dd, dd, dd, dd, dd, dd, dd, dd, dd, dd, dd, dd, dd, dd, dd, dd, dd, dd, dd, dd, dd, dd, dd, dd, dd, dd, dd, dd, dd, dd, dd, dd, dd, dd, dd, dd, dd, dd, dd, dd, dd, dd, dd, dd, dd, dd, dd, dd]
noncomputable def J3_4 (G : Gate) (call : CallF) (k : Nat) (v0 v1 v2 v3 v4 v5 v6 v7 v8 v9 v10 v11 v12 v13 : PV) : R := G 4 (regAt Tryd.prog call 3 [.b, .b, .b, .a, .b, .x, .a]) (SJ3_4 v0 v1 v2 v3 v4 v5 v6 v7 v8 v9 v10 v11 v12 v13) (behind Tryd.prog H0 G call k 3 [.b, .b, .b, .a, .b, .x, .a] .normal)
def SJ3_6 (v0 v1 v2 v3 v4 v5 v6 v7 v8 v9 : PV) : St := [dd, dd, dd, AV.o (AO.box 23 [AO.pv Ty.str v0, AO.pv (Ty.int IntKind.i64) v1, AO.pv (Ty.int IntKind.i64) v2, AO.pv Ty.str v3, AO.pv Ty.str v4]), AV.o (AO.box 25 [AO.pv (Ty.int IntKind.i64) v5, AO.pv (Ty.int IntKind.i64) v6]), dd, dd, AV.o (AO.box 25 [AO.pv (Ty.int IntKind.i64) v7, AO.pv (Ty.int IntKind.i64) v8]), dd, dd, dd, dd, dd, dd, dd, dd, dd, dd, dd, dd, dd, dd, dd, dd, dd, dd, dd, dd, dd, dd, dd, dd, dd, dd, dd, dd, dd, dd, dd, dd, dd, dd, dd, dd, dd, dd, dd, dd, dd, dd, dd, dd, dd, dd, dd, dd, AV.o (AO.pv Ty.bool v9), dd, dd, dd, dd, dd, dd, dd, dd, dd, dd, dd, dd, dd, dd, dd, dd, dd, dd, dd, dd, dd, dd, dd, dd, dd, dd, dd, dd, dd, dd, dd, dd, dd, dd, dd, dd, dd, dd, dd, dd, dd, dd, dd]
noncomputable def J3_6 (G : Gate) (call : CallF) (k : Nat) (v0 v1 v2 v3 v4 v5 v6 v7 v8 v9 : PV) : R := G 6 (regAt Tryd.prog call 3 [.b, .b, .b, .b, .a, .b, .x, .a]) (SJ3_6 v0 v1 v2 v3 v4 v5 v6 v7 v8 v9) (behind Tryd.prog H0 G call k 3 [.b, .b, .b, .b, .a, .b, .x, .a] .normal)
def SJ3_12 (v0 : PV) : St := [dd, dd, dd, dd, dd, dd, dd, dd, dd, dd, dd, dd, dd, dd, dd, dd, dd, dd, dd, dd, dd, dd, dd, dd, dd, dd, dd, dd, dd, dd, dd, dd, dd, dd, dd, dd, dd, dd, dd, dd, dd, dd, dd, dd, dd, dd, dd, dd, dd, dd, dd, dd, dd, dd, dd, dd, dd, dd, dd, dd, dd, dd, dd, dd, dd, dd, dd, dd, dd, dd, dd, dd, dd, dd, dd, dd, dd, dd, dd, dd, dd, dd, dd, dd, dd, dd, dd, dd, dd, dd, dd, dd, dd, dd, dd, dd, dd, dd, AV.o (AO.pv Ty.bool v0), dd]
noncomputable def J3_12 (G : Gate) (call : CallF) (k : Nat) (v0 : PV) : R := G 12 (regAt Tryd.prog call 3 [.b, .b, .b, .b, .b, .b, .b, .a, .b, .x, .b, .b, .x, .a]) (SJ3_12 v0) (behind Tryd.prog H0 G call k 3 [.b, .b, .b, .b, .b, .b, .b, .a, .b, .x, .b, .b, .x, .a] .normal)
def SJ3_13  : St := [dd, dd, dd, dd, dd, dd, dd, dd, dd, dd, dd, dd, dd, dd, dd, dd, dd, dd, dd, dd, dd, dd, dd, dd, dd, dd, dd, dd, dd, dd, dd, dd, dd, dd, dd, dd, dd, dd, dd, dd, dd, dd, dd, dd, dd, dd, dd, dd, dd, dd, dd, dd, dd, dd, dd, dd, dd, dd, dd, dd, dd, dd, dd, dd, dd, dd, dd, dd, dd, dd, dd, dd, dd, dd, dd, dd, dd, dd, dd, dd, dd, dd, dd, dd, dd, dd, dd, dd, dd, dd, dd, dd, dd, dd, dd, dd, dd, dd, dd, dd]
noncomputable def J3_13 (G : Gate) (call : CallF) (k : Nat)  : R := G 13 (regAt Tryd.prog call 3 [.b, .b, .b, .b, .b, .b, .b, .b, .a]) (SJ3_13 ) (behind Tryd.prog H0 G call k 3 [.b, .b, .b, .b, .b, .b, .b, .b, .a] .normal)
def SJ3_10 (v0 v1 v2 v3 v4 v5 v6 : PV) : St := [dd, dd, dd, dd, AV.o (AO.box 25 [AO.pv (Ty.int IntKind.i64) v0, AO.pv (Ty.int IntKind.i64) v1]), dd, dd, AV.o (AO.box 25 [AO.pv (Ty.int IntKind.i64) v2, AO.pv (Ty.int IntKind.i64) v3]), dd, AV.o (AO.box 25 [AO.pv (Ty.int IntKind.i64) v4, AO.pv (Ty.int IntKind.i64) v5]), dd, dd, dd, dd, dd, dd, dd, dd, dd, dd, dd, dd, dd, dd, dd, dd, dd, dd, dd, dd, dd, dd, dd, dd, dd, dd, dd, dd, dd, dd, dd, dd, dd, dd, dd, dd, dd, dd, dd, dd, dd, dd, dd, dd, dd, dd, dd, dd, dd, dd, dd, dd, dd, dd, dd, dd, dd, dd, dd, dd, dd, dd, dd, dd, dd, dd, dd, dd, dd, dd, dd, dd, dd, dd, dd, dd, AV.o (AO.pv Ty.bool v6), dd, dd, dd, dd, dd, dd, dd, dd, dd, dd, dd, dd, dd]
noncomputable def J3_10 (G : Gate) (call : CallF) (k : Nat) (v0 v1 v2 v3 v4 v5 v6 : PV) : R := G 10 (regAt Tryd.prog call 3 [.b, .b, .b, .b, .b, .b, .b, .a, .b, .x, .a]) (SJ3_10 v0 v1 v2 v3 v4 v5 v6) (behind Tryd.prog H0 G call k 3 [.b, .b, .b, .b, .b, .b, .b, .a, .b, .x, .a] .normal)
def SJ3_9 (v0 v1 v2 v3 v4 v5 v6 v7 v8 v9 : PV) : St := [dd, dd, dd, dd, AV.o (AO.box 25 [AO.pv (Ty.int IntKind.i64) v0, AO.pv (Ty.int IntKind.i64) v1]), dd, dd, AV.o (AO.box 25 [AO.pv (Ty.int IntKind.i64) v2, AO.pv (Ty.int IntKind.i64) v3]), dd, AV.o (AO.box 25 [AO.pv (Ty.int IntKind.i64) v4, AO.pv (Ty.int IntKind.i64) v5]), AV.o (AO.pv (Ty.int IntKind.i64) v6), AV.o (AO.pv Ty.bool v7), dd, dd, dd, dd, dd, dd, dd, dd, dd, dd, dd, dd, dd, dd, dd, dd, dd, dd, dd, dd, dd, dd, dd, dd, dd, dd, dd, dd, dd, dd, dd, dd, dd, dd, dd, dd, dd, dd, dd, dd, dd, dd, dd, dd, dd, dd, dd, dd, dd, AV.o (AO.pv (Ty.int IntKind.i64) v8), dd, dd, dd, dd, dd, dd, dd, dd, dd, dd, dd, dd, dd, dd, dd, AV.o (AO.pv Ty.bool v9), dd, dd, dd, dd, dd, dd, dd, dd, dd, dd, dd, dd, dd, dd, dd, dd, dd, dd, dd, dd, dd, dd]
noncomputable def J3_9 (G : Gate) (call : CallF) (k : Nat) (v0 v1 v2 v3 v4 v5 v6 v7 v8 v9 : PV) : R := G 9 (regAt Tryd.prog call 3 [.b, .b, .b, .b, .b, .b, .b, .a, .a]) (SJ3_9 v0 v1 v2 v3 v4 v5 v6 v7 v8 v9) (behind Tryd.prog H0 G call k 3 [.b, .b, .b, .b, .b, .b, .b, .a, .a] .normal)
def SJ3_7 (v0 v1 v2 v3 v4 v5 v6 v7 v8 : PV) : St := [dd, dd, dd, AV.o (AO.box 23 [AO.pv Ty.str v0, AO.pv (Ty.int IntKind.i64) v1, AO.pv (Ty.int IntKind.i64) v2, AO.pv Ty.str v3, AO.pv Ty.str v4]), AV.o (AO.box 25 [AO.pv (Ty.int IntKind.i64) v5, AO.pv (Ty.int IntKind.i64) v6]), dd, dd, AV.o (AO.box 25 [AO.pv (Ty.int IntKind.i64) v7, AO.pv (Ty.int IntKind.i64) v8]), dd, dd, dd, dd, dd, dd, dd, dd, dd, dd, dd, dd, dd, dd, dd, dd, dd, dd, dd, dd, dd, dd, dd, dd, dd, dd, dd, dd, dd, dd, dd, dd, dd, dd, dd, dd, dd, dd, dd, dd, dd, dd, dd, dd, dd, dd, dd, dd, dd, dd, dd, dd, dd, dd, dd, dd, dd, dd, dd, dd, dd, dd, dd, dd, dd, dd, dd, dd, dd, dd, dd, dd, dd, dd, dd, dd, dd, dd, dd, dd, dd, dd, dd, dd, dd, dd, dd, dd, dd, dd, dd, dd]
noncomputable def J3_7 (G : Gate) (call : CallF) (k : Nat) (v0 v1 v2 v3 v4 v5 v6 v7 v8 : PV) : R := G 7 (regAt Tryd.prog call 3 [.b, .b, .b, .b, .b, .a]) (SJ3_7 v0 v1 v2 v3 v4 v5 v6 v7 v8) (behind Tryd.prog H0 G call k 3 [.b, .b, .b, .b, .b, .a] .normal)
def SJ3_5 (v0 v1 v2 v3 v4 v5 v6 v7 v8 v9 v10 v11 v12 : PV) : St := [dd, dd, dd, AV.o (AO.box 23 [AO.pv Ty.str v0, AO.pv (Ty.int IntKind.i64) v1, AO.pv (Ty.int IntKind.i64) v2, AO.pv Ty.str v3, AO.pv Ty.str v4]), AV.o (AO.box 25 [AO.pv (Ty.int IntKind.i64) v5, AO.pv (Ty.int IntKind.i64) v6]), AV.o (AO.box 25 [AO.pv (Ty.int IntKind.i64) v7, AO.pv (Ty.int IntKind.i64) v8]), dd, AV.o (AO.box 25 [AO.pv (Ty.int IntKind.i64) v9, AO.pv (Ty.int IntKind.i64) v10]), AV.o (AO.box 25 [AO.pv (Ty.int IntKind.i64) v11, AO.pv (Ty.int IntKind.i64) v12]), dd, dd, dd, dd, dd, dd, dd, dd, dd, dd, dd, dd, dd, dd, dd, dd, dd, dd, dd, dd, dd, dd, dd, dd, dd, dd, dd, dd, dd, dd, dd, dd, dd, dd, dd, dd, dd, dd, dd, dd, dd, dd, dd, dd, dd, dd, dd, dd, dd, dd, dd, dd, dd, dd, dd, dd, dd, dd, dd, dd, dd, dd, dd, dd, dd, dd, dd, dd, dd, dd, dd, dd, dd, dd, dd, dd, dd, dd, dd, dd, dd, dd, dd, dd, dd, dd, dd, dd, dd, dd, dd]
noncomputable def J3_5 (G : Gate) (call : CallF) (k : Nat) (v0 v1 v2 v3 v4 v5 v6 v7 v8 v9 v10 v11 v12 : PV) : R := G 5 (regAt Tryd.prog call 3 [.b, .b, .b, .b, .a, .a]) (SJ3_5 v0 v1 v2 v3 v4 v5 v6 v7 v8 v9 v10 v11 v12) (behind Tryd.prog H0 G call k 3 [.b, .b, .b, .b, .a, .a] .normal)
theorem J3_4_eq (call : CallF) (k : Nat) (v0 v1 v2 v3 v4 v5 v6 v7 v8 v9 v10 v11 v12 v13 : PV) : J3_4 gate1 call k v0 v1 v2 v3 v4 v5 v6 v7 v8 v9 v10 v11 v12 v13 =
  some ([AO.pv Ty.bool (PV.bool false)], []) := by rw [J3_4, gate1_app]; kernel_rfl
theorem J3_6_eq (call : CallF) (k : Nat) (v0 v1 v2 v3 v4 v5 v6 v7 v8 v9 : PV) : J3_6 gate1 call k v0 v1 v2 v3 v4 v5 v6 v7 v8 v9 =
  some ([AO.pv Ty.bool (PV.bool false)], []) := by rw [J3_6, gate1_app]; kernel_rfl
theorem J3_12_eq (call : CallF) (k : Nat) (v0 : PV) : J3_12 gate1 call k v0 =
  some ([AO.pv Ty.bool (PV.bool false)], []) := by rw [J3_12, gate1_app]; kernel_rfl
theorem J3_13_eq (call : CallF) (k : Nat)  : J3_13 gate1 call k  =
  let c19 := call 15 []
  bif okRes Ty.bool c19 then
    some ([AO.pv Ty.bool (resPV c19)], [])
  else
    none := by rw [J3_13, gate1_app]; kernel_rfl
theorem J3_10_eq (call : CallF) (k : Nat) (v0 v1 v2 v3 v4 v5 v6 : PV) : J3_10 gate1 call k v0 v1 v2 v3 v4 v5 v6 =
  let c15 := call 14 [AO.pv (Ty.st 25) (PV.agg [v2, v3]), AO.pv (Ty.st 25) (PV.agg [v0, v1])]
  bif okRes (Ty.st 25) c15 then
    let c16 := call 13 [AO.pv (Ty.st 25) (resPV c15)]
    bif okRes (Ty.st 25) c16 then
      let c17 := call 7 [AO.pv (Ty.st 25) (PV.agg [(resPV c16).cell 0, (resPV c16).cell 1])]
      bif okRes Ty.bool c17 then
        bif (resPV c17).toBool then
          let c18 := call 9 [AO.pv (Ty.st 25) (PV.agg [(resPV c16).cell 0, (resPV c16).cell 1]), AO.pv (Ty.st 25) (PV.agg [v4, v5])]
          bif okRes (Ty.int IntKind.i64) c18 then
            bif ltI (0) ((resPV c18).toInt) then
              J3_12 gate1 call k (PV.bool true)
            else
              J3_13 gate1 call k 
          else
            none
        else
          J3_13 gate1 call k 
      else
        none
    else
      none
  else
    none := by rw [J3_10, gate1_app]; kernel_rfl
theorem J3_9_eq (call : CallF) (k : Nat) (v0 v1 v2 v3 v4 v5 v6 v7 v8 v9 : PV) : J3_9 gate1 call k v0 v1 v2 v3 v4 v5 v6 v7 v8 v9 =
  bif eqI (v6.toInt) (0) then
    bif v7.toBool then
      let c14 := call 7 [AO.pv (Ty.st 25) (PV.agg [v4, v5])]
      bif okRes Ty.bool c14 then
        bif (resPV c14).toBool then
          J3_10 gate1 call k (v0) (v1) (v2) (v3) (v4) (v5) (PV.bool true)
        else
          J3_13 gate1 call k 
      else
        none
    else
      J3_13 gate1 call k 
  else
    J3_13 gate1 call k  := by rw [J3_9, gate1_app]; kernel_rfl
theorem J3_7_eq (call : CallF) (k : Nat) (v0 v1 v2 v3 v4 v5 v6 v7 v8 : PV) : J3_7 gate1 call k v0 v1 v2 v3 v4 v5 v6 v7 v8 =
  let c8 := call 10 [AO.pv (Ty.st 23) (PV.agg [v0, v1, v2, v3, v4])]
  bif !Nat.beq 2 1 && okMany (List.map (tyOf Tryd.prog) #[25, 30].toList) c8 then
    let c9 := call 7 [AO.pv (Ty.st 25) (PV.agg [v5, v6])]
    bif okRes Ty.bool c9 then
      bif (resPV c9).toBool then
        let c10 := call 11 [AO.pv (Ty.st 23) (PV.agg [v0, v1, v2, v3, v4])]
        bif okRes (Ty.st 25) c10 then
          let c11 := call 9 [AO.pv (Ty.st 25) (resPV c10), AO.pv (Ty.st 25) (PV.agg [v5, v6])]
          bif okRes (Ty.int IntKind.i64) c11 then
            bif (resPV c9).toBool then
              bif leI ((resPV c11).toInt) (0) then
                let c12 := call 12 [AO.pv (Ty.st 23) (PV.agg [v0, v1, v2, v3, v4])]
                bif okRes (Ty.st 25) c12 then
                  let c13 := call 9 [AO.pv (Ty.st 25) (PV.agg [v5, v6]), AO.pv (Ty.st 25) (resPV c12)]
                  bif okRes (Ty.int IntKind.i64) c13 then
                    bif leI ((resPV c11).toInt) (0) then
                      J3_9 gate1 call k (v5) (v6) (v7) (v8) ((resAt 0 c8).cell 0) ((resAt 0 c8).cell 1) (resAt 1 c8) (PV.bool (leI ((resPV c13).toInt) (0))) (resAt 1 c8) (PV.bool (leI ((resPV c13).toInt) (0)))
                    else
                      J3_9 gate1 call k (v5) (v6) (v7) (v8) ((resAt 0 c8).cell 0) ((resAt 0 c8).cell 1) (resAt 1 c8) (PV.bool false) (resAt 1 c8) (PV.bool false)
                  else
                    none
                else
                  none
              else
                bif leI ((resPV c11).toInt) (0) then
                  none
                else
                  J3_9 gate1 call k (v5) (v6) (v7) (v8) ((resAt 0 c8).cell 0) ((resAt 0 c8).cell 1) (resAt 1 c8) (PV.bool false) (resAt 1 c8) (PV.bool false)
            else
              J3_9 gate1 call k (v5) (v6) (v7) (v8) ((resAt 0 c8).cell 0) ((resAt 0 c8).cell 1) (resAt 1 c8) (PV.bool false) (resAt 1 c8) (PV.bool false)
          else
            none
        else
          none
      else
        bif (resPV c9).toBool then
          none
        else
          J3_9 gate1 call k (v5) (v6) (v7) (v8) ((resAt 0 c8).cell 0) ((resAt 0 c8).cell 1) (resAt 1 c8) (PV.bool false) (resAt 1 c8) (PV.bool false)
    else
      none
  else
    none := by rw [J3_7, gate1_app]; kernel_rfl
theorem J3_5_eq (call : CallF) (k : Nat) (v0 v1 v2 v3 v4 v5 v6 v7 v8 v9 v10 v11 v12 : PV) : J3_5 gate1 call k v0 v1 v2 v3 v4 v5 v6 v7 v8 v9 v10 v11 v12 =
  bif !v4.toStr.data.toList == (ByteArray.mk #[119, 114, 97, 112]).data.toList then
    let c4 := call 7 [AO.pv (Ty.st 25) (PV.agg [v9, v10])]
    bif okRes Ty.bool c4 then
      bif (resPV c4).toBool then
        let c5 := call 7 [AO.pv (Ty.st 25) (PV.agg [v11, v12])]
        bif okRes Ty.bool c5 then
          bif (resPV c5).toBool then
            let c6 := call 9 [AO.pv (Ty.st 25) (PV.agg [v5, v6]), AO.pv (Ty.st 25) (PV.agg [v7, v8])]
            bif okRes (Ty.int IntKind.i64) c6 then
              bif leI ((resPV c6).toInt) (0) then
                let c7 := call 9 [AO.pv (Ty.st 25) (PV.agg [v9, v10]), AO.pv (Ty.st 25) (PV.agg [v11, v12])]
                bif okRes (Ty.int IntKind.i64) c7 then
                  bif ltI (0) ((resPV c7).toInt) then
                    J3_6 gate1 call k (v0) (v1) (v2) (v3) (v4) (v5) (v6) (v9) (v10) (PV.bool true)
                  else
                    J3_7 gate1 call k (v0) (v1) (v2) (v3) (v4) (v5) (v6) (v9) (v10)
                else
                  none
              else
                J3_7 gate1 call k (v0) (v1) (v2) (v3) (v4) (v5) (v6) (v9) (v10)
            else
              none
          else
            J3_7 gate1 call k (v0) (v1) (v2) (v3) (v4) (v5) (v6) (v9) (v10)
        else
          none
      else
        J3_7 gate1 call k (v0) (v1) (v2) (v3) (v4) (v5) (v6) (v9) (v10)
    else
      none
  else
    J3_7 gate1 call k (v0) (v1) (v2) (v3) (v4) (v5) (v6) (v9) (v10) := by rw [J3_5, gate1_app]; kernel_rfl
theorem R3 (call : CallF) (k : Nat) (x0 x1 x2 : PV) : evStep Tryd.prog H0 call k 3 [AO.pv (Ty.st 23) x0, AO.pv (Ty.st 25) x1, AO.pv (Ty.st 25) x2] =
  let c0 := call 6 [AO.pv (Ty.st 23) (PV.agg [x0.cell 0, x0.cell 1, x0.cell 2, x0.cell 3, x0.cell 4]), AO.pv (Ty.st 25) (PV.agg [x1.cell 0, x1.cell 1])]
  bif okRes (Ty.st 25) c0 then
    let c1 := call 6 [AO.pv (Ty.st 23) (PV.agg [x0.cell 0, x0.cell 1, x0.cell 2, x0.cell 3, x0.cell 4]), AO.pv (Ty.st 25) (PV.agg [x2.cell 0, x2.cell 1])]
    bif okRes (Ty.st 25) c1 then
      let c2 := call 7 [AO.pv (Ty.st 25) (PV.agg [(resPV c0).cell 0, (resPV c0).cell 1])]
      bif okRes Ty.bool c2 then
        bif (resPV c2).toBool then
          let c3 := call 8 [AO.pv (Ty.st 23) (PV.agg [x0.cell 0, x0.cell 1, x0.cell 2, x0.cell 3, x0.cell 4]), AO.pv (Ty.st 25) (PV.agg [(resPV c0).cell 0, (resPV c0).cell 1])]
          bif okRes Ty.bool c3 then
            bif !(resPV c3).toBool then
              bif !(resPV c3).toBool then
                bif (resPV c2).toBool then
                  J3_4 gate1 call k (x0.cell 0) (x0.cell 1) (x0.cell 2) (x0.cell 3) (x0.cell 4) (x1.cell 0) (x1.cell 1) (x2.cell 0) (x2.cell 1) ((resPV c0).cell 0) ((resPV c0).cell 1) ((resPV c1).cell 0) ((resPV c1).cell 1) (PV.bool true)
                else
                  J3_5 gate1 call k (x0.cell 0) (x0.cell 1) (x0.cell 2) (x0.cell 3) (x0.cell 4) (x1.cell 0) (x1.cell 1) (x2.cell 0) (x2.cell 1) ((resPV c0).cell 0) ((resPV c0).cell 1) ((resPV c1).cell 0) ((resPV c1).cell 1)
              else
                none
            else
              let c20 := call 6 [AO.pv (Ty.st 23) (PV.agg [x0.cell 0, x0.cell 1, x0.cell 2, x0.cell 3, x0.cell 4]), AO.pv (Ty.st 25) (PV.agg [(resPV c0).cell 0, (resPV c0).cell 1])]
              bif okRes (Ty.st 25) c20 then
                bif !(resPV c3).toBool then
                  bif (resPV c2).toBool then
                    J3_4 gate1 call k (x0.cell 0) (x0.cell 1) (x0.cell 2) (x0.cell 3) (x0.cell 4) (x1.cell 0) (x1.cell 1) (x2.cell 0) (x2.cell 1) ((resPV c0).cell 0) ((resPV c0).cell 1) ((resPV c1).cell 0) ((resPV c1).cell 1) (PV.bool true)
                  else
                    J3_5 gate1 call k (x0.cell 0) (x0.cell 1) (x0.cell 2) (x0.cell 3) (x0.cell 4) (x1.cell 0) (x1.cell 1) (x2.cell 0) (x2.cell 1) ((resPV c0).cell 0) ((resPV c0).cell 1) ((resPV c1).cell 0) ((resPV c1).cell 1)
                else
                  bif (resPV c2).toBool then
                    bif !(eqI (((resPV c20).cell 0).toInt) (((resPV c0).cell 0).toInt) && eqI (((resPV c20).cell 1).toInt) (((resPV c0).cell 1).toInt)) then
                      J3_4 gate1 call k (x0.cell 0) (x0.cell 1) (x0.cell 2) (x0.cell 3) (x0.cell 4) (x1.cell 0) (x1.cell 1) (x2.cell 0) (x2.cell 1) ((resPV c0).cell 0) ((resPV c0).cell 1) ((resPV c1).cell 0) ((resPV c1).cell 1) (PV.bool true)
                    else
                      J3_5 gate1 call k (x0.cell 0) (x0.cell 1) (x0.cell 2) (x0.cell 3) (x0.cell 4) (x1.cell 0) (x1.cell 1) (x2.cell 0) (x2.cell 1) ((resPV c0).cell 0) ((resPV c0).cell 1) ((resPV c1).cell 0) ((resPV c1).cell 1)
                  else
                    J3_5 gate1 call k (x0.cell 0) (x0.cell 1) (x0.cell 2) (x0.cell 3) (x0.cell 4) (x1.cell 0) (x1.cell 1) (x2.cell 0) (x2.cell 1) ((resPV c0).cell 0) ((resPV c0).cell 1) ((resPV c1).cell 0) ((resPV c1).cell 1)
              else
                none
          else
            none
        else
          bif (resPV c2).toBool then
            none
          else
            J3_5 gate1 call k (x0.cell 0) (x0.cell 1) (x0.cell 2) (x0.cell 3) (x0.cell 4) (x1.cell 0) (x1.cell 1) (x2.cell 0) (x2.cell 1) ((resPV c0).cell 0) ((resPV c0).cell 1) ((resPV c1).cell 0) ((resPV c1).cell 1)
      else
        none
    else
      none
  else
    none := by rw [evStep_eq]; kernel_rfl
def SJ9_2 (v0 v1 v2 v3 v4 : PV) : St := [dd, dd, AV.o (AO.box 25 [AO.pv (Ty.int IntKind.i64) v0, AO.pv (Ty.int IntKind.i64) v1]), AV.o (AO.box 25 [AO.pv (Ty.int IntKind.i64) v2, AO.pv (Ty.int IntKind.i64) v3]), dd, dd, dd, dd, dd, dd, dd, dd, dd, dd, AV.o (AO.pv Ty.bool v4), dd, dd, dd, dd, dd, dd, dd, dd, dd, dd, dd, dd, dd, dd, dd, dd, dd, dd, dd, dd, dd, dd]
noncomputable def J9_2 (G : Gate) (call : CallF) (k : Nat) (v0 v1 v2 v3 v4 : PV) : R := G 2 (regAt Tryd.prog call 9 [.b, .a, .b, .x, .a]) (SJ9_2 v0 v1 v2 v3 v4) (behind Tryd.prog H0 G call k 9 [.b, .a, .b, .x, .a] .normal)
def SJ9_13  : St := [dd, dd, dd, dd, dd, dd, dd, dd, dd, dd, dd, dd, dd, dd, dd, dd, dd, dd, dd, dd, dd, dd, dd, dd, dd, dd, dd, dd, dd, dd, dd, dd, dd, dd, dd, dd, dd]
noncomputable def J9_13 (G : Gate) (call : CallF) (k : Nat)  : R := G 13 (regAt Tryd.prog call 9 [.b, .b, .b, .b, .b, .b, .b, .b, .a]) (SJ9_13 ) (behind Tryd.prog H0 G call k 9 [.b, .b, .b, .b, .b, .b, .b, .b, .a] .normal)
def SJ9_11 (v0 v1 v2 v3 : PV) : St := [dd, dd, dd, dd, dd, AV.o (AO.pv (Ty.int IntKind.i64) v0), AV.o (AO.pv (Ty.int IntKind.i64) v1), dd, dd, dd, dd, dd, dd, dd, dd, dd, dd, dd, dd, dd, dd, dd, dd, dd, dd, AV.o (AO.pv (Ty.int IntKind.i64) v2), dd, dd, dd, dd, AV.o (AO.pv (Ty.int IntKind.i64) v3), dd, dd, dd, dd, dd, dd]
noncomputable def J9_11 (G : Gate) (call : CallF) (k : Nat) (v0 v1 v2 v3 : PV) : R := G 11 (regAt Tryd.prog call 9 [.b, .b, .b, .b, .b, .b, .b, .a, .a]) (SJ9_11 v0 v1 v2 v3) (behind Tryd.prog H0 G call k 9 [.b, .b, .b, .b, .b, .b, .b, .a, .a] .normal)
def SJ9_7 (v0 v1 v2 v3 : PV) : St := [dd, dd, AV.o (AO.box 25 [AO.pv (Ty.int IntKind.i64) v0, AO.pv (Ty.int IntKind.i64) v1]), AV.o (AO.box 25 [AO.pv (Ty.int IntKind.i64) v2, AO.pv (Ty.int IntKind.i64) v3]), dd, dd, dd, dd, dd, dd, dd, dd, dd, dd, dd, dd, dd, dd, dd, dd, dd, dd, dd, dd, dd, dd, dd, dd, dd, dd, dd, dd, dd, dd, dd, dd, dd]
noncomputable def J9_7 (G : Gate) (call : CallF) (k : Nat) (v0 v1 v2 v3 : PV) : R := G 7 (regAt Tryd.prog call 9 [.b, .b, .b, .b, .a]) (SJ9_7 v0 v1 v2 v3) (behind Tryd.prog H0 G call k 9 [.b, .b, .b, .b, .a] .normal)
def SJ9_5 (v0 v1 v2 v3 : PV) : St := [dd, dd, AV.o (AO.box 25 [AO.pv (Ty.int IntKind.i64) v0, AO.pv (Ty.int IntKind.i64) v1]), AV.o (AO.box 25 [AO.pv (Ty.int IntKind.i64) v2, AO.pv (Ty.int IntKind.i64) v3]), dd, dd, dd, dd, dd, dd, dd, dd, dd, dd, dd, dd, dd, dd, dd, dd, dd, dd, dd, dd, dd, dd, dd, dd, dd, dd, dd, dd, dd, dd, dd, dd, dd]
noncomputable def J9_5 (G : Gate) (call : CallF) (k : Nat) (v0 v1 v2 v3 : PV) : R := G 5 (regAt Tryd.prog call 9 [.b, .b, .b, .a, .a]) (SJ9_5 v0 v1 v2 v3) (behind Tryd.prog H0 G call k 9 [.b, .b, .b, .a, .a] .normal)
def SJ9_3 (v0 v1 v2 v3 : PV) : St := [dd, dd, AV.o (AO.box 25 [AO.pv (Ty.int IntKind.i64) v0, AO.pv (Ty.int IntKind.i64) v1]), AV.o (AO.box 25 [AO.pv (Ty.int IntKind.i64) v2, AO.pv (Ty.int IntKind.i64) v3]), dd, dd, dd, dd, dd, dd, dd, dd, dd, dd, dd, dd, dd, dd, dd, dd, dd, dd, dd, dd, dd, dd, dd, dd, dd, dd, dd, dd, dd, dd, dd, dd, dd]
noncomputable def J9_3 (G : Gate) (call : CallF) (k : Nat) (v0 v1 v2 v3 : PV) : R := G 3 (regAt Tryd.prog call 9 [.b, .b, .a, .a]) (SJ9_3 v0 v1 v2 v3) (behind Tryd.prog H0 G call k 9 [.b, .b, .a, .a] .normal)
theorem J9_2_eq (call : CallF) (k : Nat) (v0 v1 v2 v3 v4 : PV) : J9_2 gate1 call k v0 v1 v2 v3 v4 =
  some ([AO.pv (Ty.int IntKind.i64) (PV.int IntKind.i64 0)], []) := by rw [J9_2, gate1_app]; kernel_rfl
theorem J9_13_eq (call : CallF) (k : Nat)  : J9_13 gate1 call k  =
  some ([AO.pv (Ty.int IntKind.i64) (PV.int IntKind.i64 0)], []) := by rw [J9_13, gate1_app]; kernel_rfl
theorem J9_11_eq (call : CallF) (k : Nat) (v0 v1 v2 v3 : PV) : J9_11 gate1 call k v0 v1 v2 v3 =
  bif ltI (v1.toInt) (v0.toInt) then
    some ([AO.pv (Ty.int IntKind.i64) (PV.int IntKind.i64 1)], [])
  else
    J9_13 gate1 call k  := by rw [J9_11, gate1_app]; kernel_rfl
theorem J9_7_eq (call : CallF) (k : Nat) (v0 v1 v2 v3 : PV) : J9_7 gate1 call k v0 v1 v2 v3 =
  bif ltI (IntKind.i64.wrap (v0.toInt * v3.toInt)) (IntKind.i64.wrap (v2.toInt * v1.toInt)) then
    some ([AO.pv (Ty.int IntKind.i64) (PV.int IntKind.i64 (-1))], [])
  else
    J9_11 gate1 call k (PV.int IntKind.i64 (IntKind.i64.wrap (v0.toInt * v3.toInt))) (PV.int IntKind.i64 (IntKind.i64.wrap (v2.toInt * v1.toInt))) (PV.int IntKind.i64 (IntKind.i64.wrap (v0.toInt * v3.toInt))) (PV.int IntKind.i64 (IntKind.i64.wrap (v2.toInt * v1.toInt))) := by rw [J9_7, gate1_app]; kernel_rfl
theorem J9_5_eq (call : CallF) (k : Nat) (v0 v1 v2 v3 : PV) : J9_5 gate1 call k v0 v1 v2 v3 =
  let c3 := call 7 [AO.pv (Ty.st 25) (PV.agg [v2, v3])]
  bif okRes Ty.bool c3 then
    bif !(resPV c3).toBool then
      some ([AO.pv (Ty.int IntKind.i64) (PV.int IntKind.i64 1)], [])
    else
      J9_7 gate1 call k (v0) (v1) (v2) (v3)
  else
    none := by rw [J9_5, gate1_app]; kernel_rfl
theorem J9_3_eq (call : CallF) (k : Nat) (v0 v1 v2 v3 : PV) : J9_3 gate1 call k v0 v1 v2 v3 =
  let c2 := call 7 [AO.pv (Ty.st 25) (PV.agg [v0, v1])]
  bif okRes Ty.bool c2 then
    bif !(resPV c2).toBool then
      some ([AO.pv (Ty.int IntKind.i64) (PV.int IntKind.i64 (-1))], [])
    else
      J9_5 gate1 call k (v0) (v1) (v2) (v3)
  else
    none := by rw [J9_3, gate1_app]; kernel_rfl
theorem R9 (call : CallF) (k : Nat) (x0 x1 : PV) : evStep Tryd.prog H0 call k 9 [AO.pv (Ty.st 25) x0, AO.pv (Ty.st 25) x1] =
  let c0 := call 7 [AO.pv (Ty.st 25) (PV.agg [x0.cell 0, x0.cell 1])]
  bif okRes Ty.bool c0 then
    bif !(resPV c0).toBool then
      let c1 := call 7 [AO.pv (Ty.st 25) (PV.agg [x1.cell 0, x1.cell 1])]
      bif okRes Ty.bool c1 then
        bif !(resPV c1).toBool then
          J9_2 gate1 call k (x0.cell 0) (x0.cell 1) (x1.cell 0) (x1.cell 1) (PV.bool true)
        else
          J9_3 gate1 call k (x0.cell 0) (x0.cell 1) (x1.cell 0) (x1.cell 1)
      else
        none
    else
      J9_3 gate1 call k (x0.cell 0) (x0.cell 1) (x1.cell 0) (x1.cell 1)
  else
    none := by rw [evStep_eq]; kernel_rfl
def SJ10_2 (v0 v1 v2 v3 v4 v5 v6 v7 v8 : PV) : St := [dd, AV.o (AO.box 23 [AO.pv Ty.str v0, AO.pv (Ty.int IntKind.i64) v1, AO.pv (Ty.int IntKind.i64) v2, AO.pv Ty.str v3, AO.pv Ty.str v4]), AV.o (AO.box 25 [AO.pv (Ty.int IntKind.i64) v5, AO.pv (Ty.int IntKind.i64) v6]), dd, AV.o (AO.pv Ty.bool v7), dd, dd, dd, dd, dd, dd, dd, AV.o (AO.pv Ty.bool v8), dd, dd, dd, dd, dd, dd, dd, dd, dd, dd, dd, dd]
noncomputable def J10_2 (G : Gate) (call : CallF) (k : Nat) (v0 v1 v2 v3 v4 v5 v6 v7 v8 : PV) : R := G 2 (regAt Tryd.prog call 10 [.b, .a, .blk, .b, .x, .a]) (SJ10_2 v0 v1 v2 v3 v4 v5 v6 v7 v8) (behind Tryd.prog H0 G call k 10 [.b, .a, .blk, .b, .x, .a] .normal)
def SJ10_5 (v0 v1 v2 v3 v4 v5 v6 : PV) : St := [dd, AV.o (AO.box 23 [AO.pv Ty.str v0, AO.pv (Ty.int IntKind.i64) v1, AO.pv (Ty.int IntKind.i64) v2, AO.pv Ty.str v3, AO.pv Ty.str v4]), AV.o (AO.box 25 [AO.pv (Ty.int IntKind.i64) v5, AO.pv (Ty.int IntKind.i64) v6]), dd, dd, dd, dd, dd, dd, dd, dd, dd, dd, dd, dd, dd, dd, dd, dd, dd, dd, dd, dd, dd, dd]
noncomputable def J10_5 (G : Gate) (call : CallF) (k : Nat) (v0 v1 v2 v3 v4 v5 v6 : PV) : R := G 5 (regAt Tryd.prog call 10 [.b, .b, .a]) (SJ10_5 v0 v1 v2 v3 v4 v5 v6) (behind Tryd.prog H0 G call k 10 [.b, .b, .a] .normal)
theorem J10_2_eq (call : CallF) (k : Nat) (v0 v1 v2 v3 v4 v5 v6 v7 v8 : PV) : J10_2 gate1 call k v0 v1 v2 v3 v4 v5 v6 v7 v8 =
  some ([AO.pv (Ty.st 25) (PV.agg [PV.int IntKind.i64 0, PV.int IntKind.i64 0]), AO.pv (Ty.int IntKind.i64) (PV.int IntKind.i64 2)], []) := by rw [J10_2, gate1_app]; kernel_rfl
theorem J10_5_eq (call : CallF) (k : Nat) (v0 v1 v2 v3 v4 v5 v6 : PV) : J10_5 gate1 call k v0 v1 v2 v3 v4 v5 v6 =
  let c2 := call 24 [AO.pv (Ty.st 23) (PV.agg [v0, v1, v2, v3, v4])]
  bif okRes (Ty.st 25) c2 then
    some ([AO.pv (Ty.st 25) (PV.agg [(resPV c2).cell 0, (resPV c2).cell 1]), AO.pv (Ty.int IntKind.i64) (PV.int IntKind.i64 0)], [])
  else
    none := by rw [J10_5, gate1_app]; kernel_rfl
theorem R10 (call : CallF) (k : Nat) (x0 : PV) : evStep Tryd.prog H0 call k 10 [AO.pv (Ty.st 23) x0] =
  let c0 := call 16 [AO.pv (Ty.st 23) (PV.agg [x0.cell 0, x0.cell 1, x0.cell 2, x0.cell 3, x0.cell 4])]
  bif okRes Ty.bool c0 then
    bif !(resPV c0).toBool then
      J10_2 gate1 call k (x0.cell 0) (x0.cell 1) (x0.cell 2) (x0.cell 3) (x0.cell 4) (PV.int IntKind.i64 0) (PV.int IntKind.i64 0) (PV.bool true) (PV.bool true)
    else
      bif !(x0.cell 0).toStr.data.toList == (ByteArray.mk #[102, 105, 120]).data.toList then
        J10_2 gate1 call k (x0.cell 0) (x0.cell 1) (x0.cell 2) (x0.cell 3) (x0.cell 4) (PV.int IntKind.i64 0) (PV.int IntKind.i64 0) (PV.bool true) (PV.bool !(x0.cell 0).toStr.data.toList == (ByteArray.mk #[102, 105, 120]).data.toList)
      else
        bif (x0.cell 3).toStr.data.toList == (ByteArray.mk #[110, 101, 97, 114]).data.toList then
          bif ltI (IntKind.u64.wrap (x0.cell 2).toInt) (0) then
            none
          else
            let c1 := call 39 [AO.pv (Ty.int IntKind.i64) (PV.int IntKind.i64 1), AO.pv (Ty.int IntKind.i64) (PV.int IntKind.i64 (IntKind.i64.wrap (2 * 2 ^ min (IntKind.u64.wrap (x0.cell 2).toInt).toNat 64)))]
            bif okRes (Ty.st 25) c1 then
              some ([AO.pv (Ty.st 25) (PV.agg [(resPV c1).cell 0, (resPV c1).cell 1]), AO.pv (Ty.int IntKind.i64) (PV.int IntKind.i64 0)], [])
            else
              none
        else
          J10_5 gate1 call k (x0.cell 0) (x0.cell 1) (x0.cell 2) (x0.cell 3) (x0.cell 4) (PV.int IntKind.i64 0) (PV.int IntKind.i64 0)
  else
    none := by rw [evStep_eq]; kernel_rfl
def SJ11_5 (v0 v1 v2 v3 v4 v5 v6 : PV) : St := [dd, AV.o (AO.box 23 [AO.pv Ty.str v0, AO.pv (Ty.int IntKind.i64) v1, AO.pv (Ty.int IntKind.i64) v2, AO.pv Ty.str v3, AO.pv Ty.str v4]), AV.o (AO.box 25 [AO.pv (Ty.int IntKind.i64) v5, AO.pv (Ty.int IntKind.i64) v6]), dd, dd, dd, dd, dd, dd, dd, dd, dd, dd, dd, dd, dd, dd, dd, dd, dd, dd, dd, dd, dd]
noncomputable def J11_5 (G : Gate) (call : CallF) (k : Nat) (v0 v1 v2 v3 v4 v5 v6 : PV) : R := G 5 (regAt Tryd.prog call 11 [.b, .b, .a]) (SJ11_5 v0 v1 v2 v3 v4 v5 v6) (behind Tryd.prog H0 G call k 11 [.b, .b, .a] .normal)
theorem J11_5_eq (call : CallF) (k : Nat) (v0 v1 v2 v3 v4 v5 v6 : PV) : J11_5 gate1 call k v0 v1 v2 v3 v4 v5 v6 =
  let c2 := call 12 [AO.pv (Ty.st 23) (PV.agg [v0, v1, v2, v3, v4])]
  bif okRes (Ty.st 25) c2 then
    let c3 := call 41 [AO.pv (Ty.st 25) (resPV c2)]
    bif okRes (Ty.st 25) c3 then
      some ([AO.pv (Ty.st 25) (PV.agg [(resPV c3).cell 0, (resPV c3).cell 1])], [])
    else
      none
  else
    none := by rw [J11_5, gate1_app]; kernel_rfl
theorem R11 (call : CallF) (k : Nat) (x0 : PV) : evStep Tryd.prog H0 call k 11 [AO.pv (Ty.st 23) x0] =
  let c0 := call 16 [AO.pv (Ty.st 23) (PV.agg [x0.cell 0, x0.cell 1, x0.cell 2, x0.cell 3, x0.cell 4])]
  bif okRes Ty.bool c0 then
    bif !(resPV c0).toBool then
      some ([AO.pv (Ty.st 25) (PV.agg [PV.int IntKind.i64 0, PV.int IntKind.i64 0])], [])
    else
      bif (x0.cell 0).toStr.data.toList == (ByteArray.mk #[102, 105, 120]).data.toList then
        bif ltI (IntKind.u64.wrap (IntKind.i64.wrap ((x0.cell 1).toInt + (x0.cell 2).toInt))) (0) then
          none
        else
          let c1 := call 40 [AO.pv (Ty.st 23) (PV.agg [x0.cell 0, x0.cell 1, x0.cell 2, x0.cell 3, x0.cell 4]), AO.pv (Ty.int IntKind.i64) (PV.int IntKind.i64 (IntKind.i64.wrap (-1 * 2 ^ min (IntKind.u64.wrap (IntKind.i64.wrap ((x0.cell 1).toInt + (x0.cell 2).toInt))).toNat 64)))]
          bif okRes (Ty.st 25) c1 then
            some ([AO.pv (Ty.st 25) (PV.agg [(resPV c1).cell 0, (resPV c1).cell 1])], [])
          else
            none
      else
        J11_5 gate1 call k (x0.cell 0) (x0.cell 1) (x0.cell 2) (x0.cell 3) (x0.cell 4) (PV.int IntKind.i64 0) (PV.int IntKind.i64 0)
  else
    none := by rw [evStep_eq]; kernel_rfl
def SJ12_5 (v0 v1 v2 v3 v4 v5 v6 : PV) : St := [dd, AV.o (AO.box 23 [AO.pv Ty.str v0, AO.pv (Ty.int IntKind.i64) v1, AO.pv (Ty.int IntKind.i64) v2, AO.pv Ty.str v3, AO.pv Ty.str v4]), AV.o (AO.box 25 [AO.pv (Ty.int IntKind.i64) v5, AO.pv (Ty.int IntKind.i64) v6]), dd, dd, dd, dd, dd, dd, dd, dd, dd, dd, dd, dd, dd, dd, dd, dd, dd, dd, dd, dd, dd, dd, dd, dd, dd, dd, dd]
noncomputable def J12_5 (G : Gate) (call : CallF) (k : Nat) (v0 v1 v2 v3 v4 v5 v6 : PV) : R := G 5 (regAt Tryd.prog call 12 [.b, .b, .a]) (SJ12_5 v0 v1 v2 v3 v4 v5 v6) (behind Tryd.prog H0 G call k 12 [.b, .b, .a] .normal)
theorem J12_5_eq (call : CallF) (k : Nat) (v0 v1 v2 v3 v4 v5 v6 : PV) : J12_5 gate1 call k v0 v1 v2 v3 v4 v5 v6 =
  bif ltI (IntKind.u64.wrap v1.toInt) (0) then
    none
  else
    let c2 := call 42 [AO.pv (Ty.int IntKind.i64) (PV.int IntKind.i64 (IntKind.i64.wrap (IntKind.i64.wrap (1 * 2 ^ min (IntKind.u64.wrap v1.toInt).toNat 64) - 1))), AO.pv (Ty.int IntKind.i64) v2]
    bif okRes (Ty.st 25) c2 then
      some ([AO.pv (Ty.st 25) (PV.agg [(resPV c2).cell 0, (resPV c2).cell 1])], [])
    else
      none := by rw [J12_5, gate1_app]; kernel_rfl
theorem R12 (call : CallF) (k : Nat) (x0 : PV) : evStep Tryd.prog H0 call k 12 [AO.pv (Ty.st 23) x0] =
  let c0 := call 16 [AO.pv (Ty.st 23) (PV.agg [x0.cell 0, x0.cell 1, x0.cell 2, x0.cell 3, x0.cell 4])]
  bif okRes Ty.bool c0 then
    bif !(resPV c0).toBool then
      some ([AO.pv (Ty.st 25) (PV.agg [PV.int IntKind.i64 0, PV.int IntKind.i64 0])], [])
    else
      bif (x0.cell 0).toStr.data.toList == (ByteArray.mk #[102, 105, 120]).data.toList then
        bif ltI (IntKind.u64.wrap (IntKind.i64.wrap ((x0.cell 1).toInt + (x0.cell 2).toInt))) (0) then
          none
        else
          let c1 := call 40 [AO.pv (Ty.st 23) (PV.agg [x0.cell 0, x0.cell 1, x0.cell 2, x0.cell 3, x0.cell 4]), AO.pv (Ty.int IntKind.i64) (PV.int IntKind.i64 (IntKind.i64.wrap (IntKind.i64.wrap (1 * 2 ^ min (IntKind.u64.wrap (IntKind.i64.wrap ((x0.cell 1).toInt + (x0.cell 2).toInt))).toNat 64) - 1)))]
          bif okRes (Ty.st 25) c1 then
            some ([AO.pv (Ty.st 25) (PV.agg [(resPV c1).cell 0, (resPV c1).cell 1])], [])
          else
            none
      else
        J12_5 gate1 call k (x0.cell 0) (x0.cell 1) (x0.cell 2) (x0.cell 3) (x0.cell 4) (PV.int IntKind.i64 0) (PV.int IntKind.i64 0)
  else
    none := by rw [evStep_eq]; kernel_rfl
def SJ13_2 (v0 v1 v2 v3 v4 : PV) : St := [dd, AV.o (AO.box 25 [AO.pv (Ty.int IntKind.i64) v0, AO.pv (Ty.int IntKind.i64) v1]), AV.o (AO.box 25 [AO.pv (Ty.int IntKind.i64) v2, AO.pv (Ty.int IntKind.i64) v3]), dd, dd, dd, dd, dd, dd, AV.o (AO.pv Ty.bool v4), dd, dd, dd, dd]
noncomputable def J13_2 (G : Gate) (call : CallF) (k : Nat) (v0 v1 v2 v3 v4 : PV) : R := G 2 (regAt Tryd.prog call 13 [.b, .a, .b, .x, .a]) (SJ13_2 v0 v1 v2 v3 v4) (behind Tryd.prog H0 G call k 13 [.b, .a, .b, .x, .a] .normal)
def SJ13_3 (v0 v1 v2 v3 : PV) : St := [dd, AV.o (AO.box 25 [AO.pv (Ty.int IntKind.i64) v0, AO.pv (Ty.int IntKind.i64) v1]), AV.o (AO.box 25 [AO.pv (Ty.int IntKind.i64) v2, AO.pv (Ty.int IntKind.i64) v3]), dd, dd, dd, dd, dd, dd, dd, dd, dd, dd, dd]
noncomputable def J13_3 (G : Gate) (call : CallF) (k : Nat) (v0 v1 v2 v3 : PV) : R := G 3 (regAt Tryd.prog call 13 [.b, .b, .a]) (SJ13_3 v0 v1 v2 v3) (behind Tryd.prog H0 G call k 13 [.b, .b, .a] .normal)
theorem J13_2_eq (call : CallF) (k : Nat) (v0 v1 v2 v3 v4 : PV) : J13_2 gate1 call k v0 v1 v2 v3 v4 =
  let c1 := call 43 [AO.pv (Ty.st 25) (PV.agg [v0, v1])]
  bif okRes (Ty.st 25) c1 then
    some ([AO.pv (Ty.st 25) (PV.agg [(resPV c1).cell 0, (resPV c1).cell 1])], [])
  else
    none := by rw [J13_2, gate1_app]; kernel_rfl
theorem J13_3_eq (call : CallF) (k : Nat) (v0 v1 v2 v3 : PV) : J13_3 gate1 call k v0 v1 v2 v3 =
  let c2 := call 44 [AO.pv (Ty.st 25) (PV.agg [v0, v1])]
  bif okRes (Ty.st 25) c2 then
    some ([AO.pv (Ty.st 25) (PV.agg [(resPV c2).cell 0, (resPV c2).cell 1])], [])
  else
    none := by rw [J13_3, gate1_app]; kernel_rfl
theorem R13 (call : CallF) (k : Nat) (x0 : PV) : evStep Tryd.prog H0 call k 13 [AO.pv (Ty.st 25) x0] =
  let c0 := call 7 [AO.pv (Ty.st 25) (PV.agg [x0.cell 0, x0.cell 1])]
  bif okRes Ty.bool c0 then
    bif (resPV c0).toBool then
      bif ltI ((x0.cell 0).toInt) (0) then
        J13_2 gate1 call k (x0.cell 0) (x0.cell 1) (PV.int IntKind.i64 0) (PV.int IntKind.i64 0) (PV.bool true)
      else
        J13_3 gate1 call k (x0.cell 0) (x0.cell 1) (PV.int IntKind.i64 0) (PV.int IntKind.i64 0)
    else
      J13_3 gate1 call k (x0.cell 0) (x0.cell 1) (PV.int IntKind.i64 0) (PV.int IntKind.i64 0)
  else
    none := by rw [evStep_eq]; kernel_rfl
theorem R14 (call : CallF) (k : Nat) (x0 x1 : PV) : evStep Tryd.prog H0 call k 14 [AO.pv (Ty.st 25) x0, AO.pv (Ty.st 25) x1] =
  let c0 := call 43 [AO.pv (Ty.st 25) (PV.agg [x1.cell 0, x1.cell 1])]
  bif okRes (Ty.st 25) c0 then
    let c1 := call 18 [AO.pv (Ty.st 25) (PV.agg [x0.cell 0, x0.cell 1]), AO.pv (Ty.st 25) (resPV c0)]
    bif okRes (Ty.st 25) c1 then
      some ([AO.pv (Ty.st 25) (PV.agg [(resPV c1).cell 0, (resPV c1).cell 1])], [])
    else
      none
  else
    none := by rw [evStep_eq]; kernel_rfl
def SJ24_3 (v0 v1 v2 v3 v4 v5 v6 : PV) : St := [dd, AV.o (AO.box 23 [AO.pv Ty.str v0, AO.pv (Ty.int IntKind.i64) v1, AO.pv (Ty.int IntKind.i64) v2, AO.pv Ty.str v3, AO.pv Ty.str v4]), AV.o (AO.box 25 [AO.pv (Ty.int IntKind.i64) v5, AO.pv (Ty.int IntKind.i64) v6]), dd, dd, dd, dd, dd, dd, dd, dd, dd]
noncomputable def J24_3 (G : Gate) (call : CallF) (k : Nat) (v0 v1 v2 v3 v4 v5 v6 : PV) : R := G 3 (regAt Tryd.prog call 24 [.b, .b, .a]) (SJ24_3 v0 v1 v2 v3 v4 v5 v6) (behind Tryd.prog H0 G call k 24 [.b, .b, .a] .normal)
theorem J24_3_eq (call : CallF) (k : Nat) (v0 v1 v2 v3 v4 v5 v6 : PV) : J24_3 gate1 call k v0 v1 v2 v3 v4 v5 v6 =
  bif ltI (IntKind.u64.wrap v2.toInt) (0) then
    none
  else
    let c1 := call 39 [AO.pv (Ty.int IntKind.i64) (PV.int IntKind.i64 1), AO.pv (Ty.int IntKind.i64) (PV.int IntKind.i64 (IntKind.i64.wrap (1 * 2 ^ min (IntKind.u64.wrap v2.toInt).toNat 64)))]
    bif okRes (Ty.st 25) c1 then
      some ([AO.pv (Ty.st 25) (PV.agg [(resPV c1).cell 0, (resPV c1).cell 1])], [])
    else
      none := by rw [J24_3, gate1_app]; kernel_rfl
theorem R24 (call : CallF) (k : Nat) (x0 : PV) : evStep Tryd.prog H0 call k 24 [AO.pv (Ty.st 23) x0] =
  let c0 := call 16 [AO.pv (Ty.st 23) (PV.agg [x0.cell 0, x0.cell 1, x0.cell 2, x0.cell 3, x0.cell 4])]
  bif okRes Ty.bool c0 then
    bif !(resPV c0).toBool then
      some ([AO.pv (Ty.st 25) (PV.agg [PV.int IntKind.i64 0, PV.int IntKind.i64 0])], [])
    else
      J24_3 gate1 call k (x0.cell 0) (x0.cell 1) (x0.cell 2) (x0.cell 3) (x0.cell 4) (PV.int IntKind.i64 0) (PV.int IntKind.i64 0)
  else
    none := by rw [evStep_eq]; kernel_rfl
def SJ41_3 (v0 v1 v2 v3 : PV) : St := [dd, AV.o (AO.box 25 [AO.pv (Ty.int IntKind.i64) v0, AO.pv (Ty.int IntKind.i64) v1]), AV.o (AO.box 25 [AO.pv (Ty.int IntKind.i64) v2, AO.pv (Ty.int IntKind.i64) v3]), dd, dd, dd, dd, dd, dd, dd, dd, dd, dd]
noncomputable def J41_3 (G : Gate) (call : CallF) (k : Nat) (v0 v1 v2 v3 : PV) : R := G 3 (regAt Tryd.prog call 41 [.b, .b, .a]) (SJ41_3 v0 v1 v2 v3) (behind Tryd.prog H0 G call k 41 [.b, .b, .a] .normal)
theorem J41_3_eq (call : CallF) (k : Nat) (v0 v1 v2 v3 : PV) : J41_3 gate1 call k v0 v1 v2 v3 =
  some ([AO.pv (Ty.st 25) (PV.agg [PV.int IntKind.i64 (IntKind.i64.wrap (0 - v0.toInt)), v1])], []) := by rw [J41_3, gate1_app]; kernel_rfl
theorem R41 (call : CallF) (k : Nat) (x0 : PV) : evStep Tryd.prog H0 call k 41 [AO.pv (Ty.st 25) x0] =
  let c0 := call 35 [AO.pv (Ty.st 25) (PV.agg [x0.cell 0, x0.cell 1])]
  bif okRes Ty.bool c0 then
    bif !(resPV c0).toBool then
      some ([AO.pv (Ty.st 25) (PV.agg [PV.int IntKind.i64 0, PV.int IntKind.i64 0])], [])
    else
      J41_3 gate1 call k (x0.cell 0) (x0.cell 1) (PV.int IntKind.i64 0) (PV.int IntKind.i64 0)
  else
    none := by rw [evStep_eq]; kernel_rfl
def SJ42_3 (v0 v1 v2 v3 : PV) : St := [AV.o (AO.pv (Ty.int IntKind.i64) v0), AV.o (AO.pv (Ty.int IntKind.i64) v1), dd, dd, AV.o (AO.box 25 [AO.pv (Ty.int IntKind.i64) v2, AO.pv (Ty.int IntKind.i64) v3]), dd, dd, dd, dd, dd, dd, dd, dd, dd, dd, dd, dd, dd]
noncomputable def J42_3 (G : Gate) (call : CallF) (k : Nat) (v0 v1 v2 v3 : PV) : R := G 3 (regAt Tryd.prog call 42 [.b, .b, .a]) (SJ42_3 v0 v1 v2 v3) (behind Tryd.prog H0 G call k 42 [.b, .b, .a] .normal)
theorem J42_3_eq (call : CallF) (k : Nat) (v0 v1 v2 v3 : PV) : J42_3 gate1 call k v0 v1 v2 v3 =
  bif ltI (IntKind.u64.wrap (IntKind.i64.wrap (0 - v1.toInt))) (0) then
    none
  else
    let c1 := call 39 [AO.pv (Ty.int IntKind.i64) v0, AO.pv (Ty.int IntKind.i64) (PV.int IntKind.i64 (IntKind.i64.wrap (1 * 2 ^ min (IntKind.u64.wrap (IntKind.i64.wrap (0 - v1.toInt))).toNat 64)))]
    bif okRes (Ty.st 25) c1 then
      some ([AO.pv (Ty.st 25) (PV.agg [(resPV c1).cell 0, (resPV c1).cell 1])], [])
    else
      none := by rw [J42_3, gate1_app]; kernel_rfl
theorem R42 (call : CallF) (k : Nat) (x0 x1 : PV) : evStep Tryd.prog H0 call k 42 [AO.pv (Ty.int IntKind.i64) x0, AO.pv (Ty.int IntKind.i64) x1] =
  bif leI (0) (x1.toInt) then
    bif ltI (IntKind.u64.wrap x1.toInt) (0) then
      none
    else
      let c0 := call 39 [AO.pv (Ty.int IntKind.i64) (PV.int IntKind.i64 (IntKind.i64.wrap (x0.toInt * 2 ^ min (IntKind.u64.wrap x1.toInt).toNat 64))), AO.pv (Ty.int IntKind.i64) (PV.int IntKind.i64 1)]
      bif okRes (Ty.st 25) c0 then
        some ([AO.pv (Ty.st 25) (PV.agg [(resPV c0).cell 0, (resPV c0).cell 1])], [])
      else
        none
  else
    J42_3 gate1 call k (x0) (x1) (PV.int IntKind.i64 0) (PV.int IntKind.i64 0) := by rw [evStep_eq]; kernel_rfl
def SJ43_3 (v0 v1 v2 v3 : PV) : St := [dd, AV.o (AO.box 25 [AO.pv (Ty.int IntKind.i64) v0, AO.pv (Ty.int IntKind.i64) v1]), AV.o (AO.box 25 [AO.pv (Ty.int IntKind.i64) v2, AO.pv (Ty.int IntKind.i64) v3]), dd, dd, dd, dd, dd, dd, dd, dd, dd, dd]
noncomputable def J43_3 (G : Gate) (call : CallF) (k : Nat) (v0 v1 v2 v3 : PV) : R := G 3 (regAt Tryd.prog call 43 [.b, .b, .a]) (SJ43_3 v0 v1 v2 v3) (behind Tryd.prog H0 G call k 43 [.b, .b, .a] .normal)
theorem J43_3_eq (call : CallF) (k : Nat) (v0 v1 v2 v3 : PV) : J43_3 gate1 call k v0 v1 v2 v3 =
  some ([AO.pv (Ty.st 25) (PV.agg [PV.int IntKind.i64 (IntKind.i64.wrap (0 - v0.toInt)), v1])], []) := by rw [J43_3, gate1_app]; kernel_rfl
theorem R43 (call : CallF) (k : Nat) (x0 : PV) : evStep Tryd.prog H0 call k 43 [AO.pv (Ty.st 25) x0] =
  let c0 := call 7 [AO.pv (Ty.st 25) (PV.agg [x0.cell 0, x0.cell 1])]
  bif okRes Ty.bool c0 then
    bif !(resPV c0).toBool then
      let c1 := call 48 []
      bif okRes (Ty.st 25) c1 then
        some ([AO.pv (Ty.st 25) (PV.agg [(resPV c1).cell 0, (resPV c1).cell 1])], [])
      else
        none
    else
      J43_3 gate1 call k (x0.cell 0) (x0.cell 1) (PV.int IntKind.i64 0) (PV.int IntKind.i64 0)
  else
    none := by rw [evStep_eq]; kernel_rfl
def SJ44_3 (v0 v1 : PV) : St := [dd, dd, AV.o (AO.box 25 [AO.pv (Ty.int IntKind.i64) v0, AO.pv (Ty.int IntKind.i64) v1]), dd, dd, dd, dd]
noncomputable def J44_3 (G : Gate) (call : CallF) (k : Nat) (v0 v1 : PV) : R := G 3 (regAt Tryd.prog call 44 [.b, .b, .a]) (SJ44_3 v0 v1) (behind Tryd.prog H0 G call k 44 [.b, .b, .a] .normal)
theorem J44_3_eq (call : CallF) (k : Nat) (v0 v1 : PV) : J44_3 gate1 call k v0 v1 =
  let c1 := call 48 []
  bif okRes (Ty.st 25) c1 then
    some ([AO.pv (Ty.st 25) (PV.agg [(resPV c1).cell 0, (resPV c1).cell 1])], [])
  else
    none := by rw [J44_3, gate1_app]; kernel_rfl
theorem R44 (call : CallF) (k : Nat) (x0 : PV) : evStep Tryd.prog H0 call k 44 [AO.pv (Ty.st 25) x0] =
  let c0 := call 7 [AO.pv (Ty.st 25) (PV.agg [x0.cell 0, x0.cell 1])]
  bif okRes Ty.bool c0 then
    bif (resPV c0).toBool then
      some ([AO.pv (Ty.st 25) (PV.agg [x0.cell 0, x0.cell 1])], [])
    else
      J44_3 gate1 call k (PV.int IntKind.i64 0) (PV.int IntKind.i64 0)
  else
    none := by rw [evStep_eq]; kernel_rfl
theorem R49 (call : CallF) (k : Nat) (x0 : PV) : evStep Tryd.prog H0 call k 49 [AO.pv (Ty.int IntKind.i64) x0] =
  bif ltI (x0.toInt) (0) then
    none
  else
    some ([AO.pv (Ty.int IntKind.i64) (PV.int IntKind.i64 (IntKind.i64.wrap (1 * 2 ^ min x0.toInt.toNat 64)))], []) := by rw [evStep_eq]; kernel_rfl
def SJ53_3 (v0 v1 v2 v3 v4 v5 v6 v7 : PV) : St := [AV.o (AO.pv Ty.bool v0), AV.o (AO.pv (Ty.int IntKind.u64) v1), AV.o (AO.pv (Ty.int IntKind.u64) v2), dd, dd, dd, AV.o (AO.box 51 [AO.pv Ty.bool v3, AO.pv (Ty.int IntKind.u64) v4, AO.pv (Ty.int IntKind.u64) v5]), AV.o (AO.pv (Ty.int IntKind.u64) v6), AV.o (AO.pv (Ty.int IntKind.u64) v7), dd, dd, dd, dd, dd, dd, dd, dd, dd, dd, dd, dd, dd, dd, dd, dd]
noncomputable def J53_3 (G : Gate) (call : CallF) (k n : Nat) (v0 v1 v2 v3 v4 v5 v6 v7 : PV) : R := G 3 (regAt Tryd.prog call 53 [.b, .b, .a, .blk, .lp n, .b, .blk]) (SJ53_3 v0 v1 v2 v3 v4 v5 v6 v7) (behind Tryd.prog H0 G call k 53 [.b, .b, .a, .blk, .lp n, .b, .blk] .normal)
def SJ53_4 (v0 v1 v2 v3 v4 v5 v6 v7 : PV) : St := [AV.o (AO.pv Ty.bool v0), AV.o (AO.pv (Ty.int IntKind.u64) v1), AV.o (AO.pv (Ty.int IntKind.u64) v2), dd, dd, dd, AV.o (AO.box 51 [AO.pv Ty.bool v3, AO.pv (Ty.int IntKind.u64) v4, AO.pv (Ty.int IntKind.u64) v5]), AV.o (AO.pv (Ty.int IntKind.u64) v6), AV.o (AO.pv (Ty.int IntKind.u64) v7), dd, dd, dd, dd, dd, dd, dd, dd, dd, dd, dd, dd, dd, dd, dd, dd]
noncomputable def J53_4 (G : Gate) (call : CallF) (k : Nat) (v0 v1 v2 v3 v4 v5 v6 v7 : PV) : R := G 4 (regAt Tryd.prog call 53 [.b, .b, .b, .a]) (SJ53_4 v0 v1 v2 v3 v4 v5 v6 v7) (behind Tryd.prog H0 G call k 53 [.b, .b, .b, .a] .normal)
def S53_2 (v0 v1 v2 v3 v4 v5 v6 v7 : PV) : St := [AV.o (AO.pv Ty.bool v0), AV.o (AO.pv (Ty.int IntKind.u64) v1), AV.o (AO.pv (Ty.int IntKind.u64) v2), dd, dd, dd, AV.o (AO.box 51 [AO.pv Ty.bool v3, AO.pv (Ty.int IntKind.u64) v4, AO.pv (Ty.int IntKind.u64) v5]), AV.o (AO.pv (Ty.int IntKind.u64) v6), AV.o (AO.pv (Ty.int IntKind.u64) v7), dd, dd, dd, dd, dd, dd, dd, dd, dd, dd, dd, dd, dd, dd, dd, dd]
noncomputable def L53_2 (G : Gate) (call : CallF) (k n : Nat) (v0 v1 v2 v3 v4 v5 v6 v7 : PV) : R := loopAt Tryd.prog H0 G call k 53 [.b, .b, .a, .blk] n (S53_2 v0 v1 v2 v3 v4 v5 v6 v7) (behind Tryd.prog H0 G call k 53 [.b, .b, .a, .blk])
theorem J53_3_eq (call : CallF) (k n : Nat) (v0 v1 v2 v3 v4 v5 v6 v7 : PV) : J53_3 gate1 call k n v0 v1 v2 v3 v4 v5 v6 v7 =
  bif eqI (v7.toInt) (0) then
    none
  else
  L53_2 gate1 call k n (v0) (v1) (v2) (v3) (v4) (v5) (v7) (PV.int IntKind.u64 (v6.toInt.tmod v7.toInt)) := by rw [J53_3, gate1_app]; kernel_rfl
theorem J53_4_eq (call : CallF) (k : Nat) (v0 v1 v2 v3 v4 v5 v6 v7 : PV) : J53_4 gate1 call k v0 v1 v2 v3 v4 v5 v6 v7 =
  bif eqI (v6.toInt) (0) then
    none
  else
    bif eqI (v6.toInt) (0) then
      none
    else
      some ([AO.pv (Ty.st 51) (PV.agg [v0, PV.int IntKind.u64 (IntKind.u64.wrap (v1.toInt.tdiv v6.toInt)), PV.int IntKind.u64 (IntKind.u64.wrap (v2.toInt.tdiv v6.toInt))])], []) := by rw [J53_4, gate1_app]; kernel_rfl
theorem L53_2_succ (G : Gate) (call : CallF) (k n : Nat) (v0 v1 v2 v3 v4 v5 v6 v7 : PV) : L53_2 G call k (n + 1) v0 v1 v2 v3 v4 v5 v6 v7 =
  bif !eqI (v7.toInt) (0) then
    J53_3 G call k n (v0) (v1) (v2) (v3) (v4) (v5) (v6) (v7)
  else
  J53_4 G call k (v0) (v1) (v2) (v3) (v4) (v5) (v6) (v7) := by kernel_rfl
theorem R53 (call : CallF) (k : Nat) (x0 x1 x2 : PV) : evStep Tryd.prog H0 call k 53 [AO.pv Ty.bool x0, AO.pv (Ty.int IntKind.u64) x1, AO.pv (Ty.int IntKind.u64) x2] =
  L53_2 gate1 call k k (x0) (x1) (x2) (PV.bool false) (PV.int IntKind.u64 0) (PV.int IntKind.u64 0) (x1) (x2) := by rw [evStep_eq]; kernel_rfl
def SJ54_3 (v0 v1 v2 v3 v4 v5 : PV) : St := [dd, dd, AV.o (AO.box 25 [AO.pv (Ty.int IntKind.i64) v0, AO.pv (Ty.int IntKind.i64) v1]), AV.o (AO.box 25 [AO.pv (Ty.int IntKind.i64) v2, AO.pv (Ty.int IntKind.i64) v3]), AV.o (AO.box 25 [AO.pv (Ty.int IntKind.i64) v4, AO.pv (Ty.int IntKind.i64) v5]), dd, dd, dd, dd, dd, dd, dd, dd, dd, dd, dd, dd, dd, dd, dd, dd]
noncomputable def J54_3 (G : Gate) (call : CallF) (k : Nat) (v0 v1 v2 v3 v4 v5 : PV) : R := G 3 (regAt Tryd.prog call 54 [.b, .b, .a]) (SJ54_3 v0 v1 v2 v3 v4 v5) (behind Tryd.prog H0 G call k 54 [.b, .b, .a] .normal)
theorem J54_3_eq (call : CallF) (k : Nat) (v0 v1 v2 v3 v4 v5 : PV) : J54_3 gate1 call k v0 v1 v2 v3 v4 v5 =
  let c2 := call 46 [AO.pv (Ty.int IntKind.i64) (PV.int IntKind.i64 (IntKind.i64.wrap (v0.toInt * v3.toInt))), AO.pv (Ty.int IntKind.i64) (PV.int IntKind.i64 (IntKind.i64.wrap (v1.toInt * v2.toInt)))]
  bif okRes (Ty.st 25) c2 then
    some ([AO.pv (Ty.st 25) (PV.agg [(resPV c2).cell 0, (resPV c2).cell 1])], [])
  else
    none := by rw [J54_3, gate1_app]; kernel_rfl
theorem R54 (call : CallF) (k : Nat) (x0 x1 : PV) : evStep Tryd.prog H0 call k 54 [AO.pv (Ty.st 25) x0, AO.pv (Ty.st 25) x1] =
  let c0 := call 47 [AO.pv (Ty.st 25) (PV.agg [x0.cell 0, x0.cell 1]), AO.pv (Ty.st 25) (PV.agg [x1.cell 0, x1.cell 1])]
  bif okRes Ty.bool c0 then
    bif !(resPV c0).toBool then
      let c1 := call 48 []
      bif okRes (Ty.st 25) c1 then
        some ([AO.pv (Ty.st 25) (PV.agg [(resPV c1).cell 0, (resPV c1).cell 1])], [])
      else
        none
    else
      J54_3 gate1 call k (x0.cell 0) (x0.cell 1) (x1.cell 0) (x1.cell 1) (PV.int IntKind.i64 0) (PV.int IntKind.i64 0)
  else
    none := by rw [evStep_eq]; kernel_rfl
def SJ58_5 (v0 v1 v2 v3 v4 v5 v6 v7 v8 v9 v10 : PV) : St := [dd, dd, AV.o (AO.box 23 [AO.pv Ty.str v0, AO.pv (Ty.int IntKind.i64) v1, AO.pv (Ty.int IntKind.i64) v2, AO.pv Ty.str v3, AO.pv Ty.str v4]), AV.o (AO.box 51 [AO.pv Ty.bool v5, AO.pv (Ty.int IntKind.u64) v6, AO.pv (Ty.int IntKind.u64) v7]), AV.o (AO.box 25 [AO.pv (Ty.int IntKind.i64) v8, AO.pv (Ty.int IntKind.i64) v9]), AV.o (AO.pv (Ty.int IntKind.i64) v10), dd, dd, dd, dd, dd, dd, dd, dd, dd, dd, dd, dd, dd, dd, dd, dd, dd, dd, dd, dd, dd, dd, dd, dd, dd, dd, dd, dd, dd, dd, dd, dd, dd, dd, dd, dd, dd, dd, dd, dd, dd, dd, dd, dd, dd, dd, dd, dd, dd, dd, dd, dd, dd, dd, dd, dd, dd, dd, dd, dd, dd, dd, dd, dd, dd, dd, dd, dd, dd, dd, dd]
noncomputable def J58_5 (G : Gate) (call : CallF) (k n : Nat) (v0 v1 v2 v3 v4 v5 v6 v7 v8 v9 v10 : PV) : R := G 5 (regAt Tryd.prog call 58 [.b, .b, .b, .a, .blk, .lp n, .b, .blk]) (SJ58_5 v0 v1 v2 v3 v4 v5 v6 v7 v8 v9 v10) (behind Tryd.prog H0 G call k 58 [.b, .b, .b, .a, .blk, .lp n, .b, .blk] .normal)
def SJ58_17 (v0 v1 v2 v3 v4 v5 v6 : PV) : St := [dd, dd, AV.o (AO.box 23 [AO.pv Ty.str v0, AO.pv (Ty.int IntKind.i64) v1, AO.pv (Ty.int IntKind.i64) v2, AO.pv Ty.str v3, AO.pv Ty.str v4]), dd, AV.o (AO.box 25 [AO.pv (Ty.int IntKind.i64) v5, AO.pv (Ty.int IntKind.i64) v6]), dd, dd, dd, dd, dd, dd, dd, dd, dd, dd, dd, dd, dd, dd, dd, dd, dd, dd, dd, dd, dd, dd, dd, dd, dd, dd, dd, dd, dd, dd, dd, dd, dd, dd, dd, dd, dd, dd, dd, dd, dd, dd, dd, dd, dd, dd, dd, dd, dd, dd, dd, dd, dd, dd, dd, dd, dd, dd, dd, dd, dd, dd, dd, dd, dd, dd, dd, dd, dd, dd, dd, dd]
noncomputable def J58_17 (G : Gate) (call : CallF) (k : Nat) (v0 v1 v2 v3 v4 v5 v6 : PV) : R := G 17 (regAt Tryd.prog call 58 [.b, .b, .b, .b, .b, .b, .a]) (SJ58_17 v0 v1 v2 v3 v4 v5 v6) (behind Tryd.prog H0 G call k 58 [.b, .b, .b, .b, .b, .b, .a] .normal)
def SJ58_13 (v0 v1 v2 v3 v4 v5 v6 v7 v8 v9 : PV) : St := [dd, dd, AV.o (AO.box 23 [AO.pv Ty.str v0, AO.pv (Ty.int IntKind.i64) v1, AO.pv (Ty.int IntKind.i64) v2, AO.pv Ty.str v3, AO.pv Ty.str v4]), AV.o (AO.box 51 [AO.pv Ty.bool v5, AO.pv (Ty.int IntKind.u64) v6, AO.pv (Ty.int IntKind.u64) v7]), AV.o (AO.box 25 [AO.pv (Ty.int IntKind.i64) v8, AO.pv (Ty.int IntKind.i64) v9]), dd, dd, dd, dd, dd, dd, dd, dd, dd, dd, dd, dd, dd, dd, dd, dd, dd, dd, dd, dd, dd, dd, dd, dd, dd, dd, dd, dd, dd, dd, dd, dd, dd, dd, dd, dd, dd, dd, dd, dd, dd, dd, dd, dd, dd, dd, dd, dd, dd, dd, dd, dd, dd, dd, dd, dd, dd, dd, dd, dd, dd, dd, dd, dd, dd, dd, dd, dd, dd, dd, dd, dd]
noncomputable def J58_13 (G : Gate) (call : CallF) (k : Nat) (v0 v1 v2 v3 v4 v5 v6 v7 v8 v9 : PV) : R := G 13 (regAt Tryd.prog call 58 [.b, .b, .b, .b, .b, .a, .blk, .a]) (SJ58_13 v0 v1 v2 v3 v4 v5 v6 v7 v8 v9) (behind Tryd.prog H0 G call k 58 [.b, .b, .b, .b, .b, .a, .blk, .a] .normal)
def SJ58_11 (v0 v1 v2 v3 v4 v5 v6 v7 v8 v9 v10 v11 v12 v13 v14 : PV) : St := [dd, dd, AV.o (AO.box 23 [AO.pv Ty.str v0, AO.pv (Ty.int IntKind.i64) v1, AO.pv (Ty.int IntKind.i64) v2, AO.pv Ty.str v3, AO.pv Ty.str v4]), AV.o (AO.box 51 [AO.pv Ty.bool v5, AO.pv (Ty.int IntKind.u64) v6, AO.pv (Ty.int IntKind.u64) v7]), AV.o (AO.box 25 [AO.pv (Ty.int IntKind.i64) v8, AO.pv (Ty.int IntKind.i64) v9]), AV.o (AO.pv (Ty.int IntKind.i64) v10), AV.o (AO.pv (Ty.int IntKind.i64) v11), dd, dd, dd, dd, dd, dd, dd, dd, dd, dd, dd, dd, dd, dd, dd, dd, dd, dd, dd, dd, dd, dd, dd, dd, dd, dd, dd, dd, dd, dd, dd, dd, dd, AV.o (AO.pv (Ty.int IntKind.i64) v12), dd, dd, dd, dd, dd, dd, dd, dd, dd, dd, dd, dd, dd, dd, AV.o (AO.pv (Ty.int IntKind.i64) v13), dd, AV.o (AO.pv (Ty.int IntKind.i64) v14), dd, dd, dd, dd, dd, dd, dd, dd, dd, dd, dd, dd, dd, dd, dd, dd, dd, dd, dd]
noncomputable def J58_11 (G : Gate) (call : CallF) (k : Nat) (v0 v1 v2 v3 v4 v5 v6 v7 v8 v9 v10 v11 v12 v13 v14 : PV) : R := G 11 (regAt Tryd.prog call 58 [.b, .b, .b, .b, .a, .b, .x, .b, .b, .b, .a]) (SJ58_11 v0 v1 v2 v3 v4 v5 v6 v7 v8 v9 v10 v11 v12 v13 v14) (behind Tryd.prog H0 G call k 58 [.b, .b, .b, .b, .a, .b, .x, .b, .b, .b, .a] .normal)
def SJ58_10 (v0 v1 v2 v3 v4 v5 v6 v7 v8 v9 v10 v11 v12 v13 : PV) : St := [dd, dd, AV.o (AO.box 23 [AO.pv Ty.str v0, AO.pv (Ty.int IntKind.i64) v1, AO.pv (Ty.int IntKind.i64) v2, AO.pv Ty.str v3, AO.pv Ty.str v4]), AV.o (AO.box 51 [AO.pv Ty.bool v5, AO.pv (Ty.int IntKind.u64) v6, AO.pv (Ty.int IntKind.u64) v7]), AV.o (AO.box 25 [AO.pv (Ty.int IntKind.i64) v8, AO.pv (Ty.int IntKind.i64) v9]), AV.o (AO.pv (Ty.int IntKind.i64) v10), AV.o (AO.pv (Ty.int IntKind.i64) v11), dd, dd, dd, dd, dd, dd, dd, dd, dd, dd, dd, dd, dd, dd, dd, dd, dd, dd, dd, dd, dd, dd, dd, dd, dd, dd, dd, dd, dd, dd, dd, dd, dd, AV.o (AO.pv (Ty.int IntKind.i64) v12), dd, dd, dd, dd, dd, dd, dd, dd, dd, dd, dd, dd, AV.o (AO.pv Ty.bool v13), dd, dd, dd, dd, dd, dd, dd, dd, dd, dd, dd, dd, dd, dd, dd, dd, dd, dd, dd, dd, dd, dd, dd]
noncomputable def J58_10 (G : Gate) (call : CallF) (k : Nat) (v0 v1 v2 v3 v4 v5 v6 v7 v8 v9 v10 v11 v12 v13 : PV) : R := G 10 (regAt Tryd.prog call 58 [.b, .b, .b, .b, .a, .b, .x, .b, .b, .a, .b, .x]) (SJ58_10 v0 v1 v2 v3 v4 v5 v6 v7 v8 v9 v10 v11 v12 v13) (behind Tryd.prog H0 G call k 58 [.b, .b, .b, .b, .a, .b, .x, .b, .b, .a, .b, .x] .normal)
def SJ58_11s1 (v0 v1 v2 v3 v4 v5 v6 v7 v8 v9 v10 v11 v12 : PV) : St := [dd, dd, AV.o (AO.box 23 [AO.pv Ty.str v0, AO.pv (Ty.int IntKind.i64) v1, AO.pv (Ty.int IntKind.i64) v2, AO.pv Ty.str v3, AO.pv Ty.str v4]), AV.o (AO.box 51 [AO.pv Ty.bool v5, AO.pv (Ty.int IntKind.u64) v6, AO.pv (Ty.int IntKind.u64) v7]), AV.o (AO.box 25 [AO.pv (Ty.int IntKind.i64) v8, AO.pv (Ty.int IntKind.i64) v9]), AV.o (AO.pv (Ty.int IntKind.i64) v10), AV.o (AO.pv (Ty.int IntKind.i64) v11), dd, dd, dd, dd, dd, dd, dd, dd, dd, dd, dd, dd, dd, dd, dd, dd, dd, dd, dd, dd, dd, dd, dd, dd, dd, dd, dd, dd, dd, dd, dd, dd, dd, AV.o (AO.pv (Ty.int IntKind.i64) v12), dd, dd, dd, dd, dd, dd, dd, dd, dd, dd, dd, dd, dd, dd, dd, dd, dd, dd, dd, dd, dd, dd, dd, dd, dd, dd, dd, dd, dd, dd, dd, dd, dd, dd, dd, dd]
noncomputable def J58_11s1 (G : Gate) (call : CallF) (k : Nat) (v0 v1 v2 v3 v4 v5 v6 v7 v8 v9 v10 v11 v12 : PV) : R := G 11 (regAt Tryd.prog call 58 [.b, .b, .b, .b, .a, .b, .x, .b, .b, .b, .a]) (SJ58_11s1 v0 v1 v2 v3 v4 v5 v6 v7 v8 v9 v10 v11 v12) (behind Tryd.prog H0 G call k 58 [.b, .b, .b, .b, .a, .b, .x, .b, .b, .b, .a] .normal)
def SJ58_6 (v0 v1 v2 v3 v4 v5 v6 v7 v8 v9 v10 : PV) : St := [dd, dd, AV.o (AO.box 23 [AO.pv Ty.str v0, AO.pv (Ty.int IntKind.i64) v1, AO.pv (Ty.int IntKind.i64) v2, AO.pv Ty.str v3, AO.pv Ty.str v4]), AV.o (AO.box 51 [AO.pv Ty.bool v5, AO.pv (Ty.int IntKind.u64) v6, AO.pv (Ty.int IntKind.u64) v7]), AV.o (AO.box 25 [AO.pv (Ty.int IntKind.i64) v8, AO.pv (Ty.int IntKind.i64) v9]), AV.o (AO.pv (Ty.int IntKind.i64) v10), dd, dd, dd, dd, dd, dd, dd, dd, dd, dd, dd, dd, dd, dd, dd, dd, dd, dd, dd, dd, dd, dd, dd, dd, dd, dd, dd, dd, dd, dd, dd, dd, dd, dd, dd, dd, dd, dd, dd, dd, dd, dd, dd, dd, dd, dd, dd, dd, dd, dd, dd, dd, dd, dd, dd, dd, dd, dd, dd, dd, dd, dd, dd, dd, dd, dd, dd, dd, dd, dd, dd]
noncomputable def J58_6 (G : Gate) (call : CallF) (k : Nat) (v0 v1 v2 v3 v4 v5 v6 v7 v8 v9 v10 : PV) : R := G 6 (regAt Tryd.prog call 58 [.b, .b, .b, .b, .a, .a]) (SJ58_6 v0 v1 v2 v3 v4 v5 v6 v7 v8 v9 v10) (behind Tryd.prog H0 G call k 58 [.b, .b, .b, .b, .a, .a] .normal)
def S58_4 (v0 v1 v2 v3 v4 v5 v6 v7 v8 v9 v10 : PV) : St := [dd, dd, AV.o (AO.box 23 [AO.pv Ty.str v0, AO.pv (Ty.int IntKind.i64) v1, AO.pv (Ty.int IntKind.i64) v2, AO.pv Ty.str v3, AO.pv Ty.str v4]), AV.o (AO.box 51 [AO.pv Ty.bool v5, AO.pv (Ty.int IntKind.u64) v6, AO.pv (Ty.int IntKind.u64) v7]), AV.o (AO.box 25 [AO.pv (Ty.int IntKind.i64) v8, AO.pv (Ty.int IntKind.i64) v9]), AV.o (AO.pv (Ty.int IntKind.i64) v10), dd, dd, dd, dd, dd, dd, dd, dd, dd, dd, dd, dd, dd, dd, dd, dd, dd, dd, dd, dd, dd, dd, dd, dd, dd, dd, dd, dd, dd, dd, dd, dd, dd, dd, dd, dd, dd, dd, dd, dd, dd, dd, dd, dd, dd, dd, dd, dd, dd, dd, dd, dd, dd, dd, dd, dd, dd, dd, dd, dd, dd, dd, dd, dd, dd, dd, dd, dd, dd, dd, dd]
noncomputable def L58_4 (G : Gate) (call : CallF) (k n : Nat) (v0 v1 v2 v3 v4 v5 v6 v7 v8 v9 v10 : PV) : R := loopAt Tryd.prog H0 G call k 58 [.b, .b, .b, .a, .blk] n (S58_4 v0 v1 v2 v3 v4 v5 v6 v7 v8 v9 v10) (behind Tryd.prog H0 G call k 58 [.b, .b, .b, .a, .blk])
def SJ58_3 (v0 v1 v2 v3 v4 v5 v6 v7 v8 v9 : PV) : St := [dd, dd, AV.o (AO.box 23 [AO.pv Ty.str v0, AO.pv (Ty.int IntKind.i64) v1, AO.pv (Ty.int IntKind.i64) v2, AO.pv Ty.str v3, AO.pv Ty.str v4]), AV.o (AO.box 51 [AO.pv Ty.bool v5, AO.pv (Ty.int IntKind.u64) v6, AO.pv (Ty.int IntKind.u64) v7]), AV.o (AO.box 25 [AO.pv (Ty.int IntKind.i64) v8, AO.pv (Ty.int IntKind.i64) v9]), dd, dd, dd, dd, dd, dd, dd, dd, dd, dd, dd, dd, dd, dd, dd, dd, dd, dd, dd, dd, dd, dd, dd, dd, dd, dd, dd, dd, dd, dd, dd, dd, dd, dd, dd, dd, dd, dd, dd, dd, dd, dd, dd, dd, dd, dd, dd, dd, dd, dd, dd, dd, dd, dd, dd, dd, dd, dd, dd, dd, dd, dd, dd, dd, dd, dd, dd, dd, dd, dd, dd, dd]
noncomputable def J58_3 (G : Gate) (call : CallF) (k : Nat) (v0 v1 v2 v3 v4 v5 v6 v7 v8 v9 : PV) : R := G 3 (regAt Tryd.prog call 58 [.b, .b, .a]) (SJ58_3 v0 v1 v2 v3 v4 v5 v6 v7 v8 v9) (behind Tryd.prog H0 G call k 58 [.b, .b, .a] .normal)
theorem J58_5_eq (call : CallF) (k n : Nat) (v0 v1 v2 v3 v4 v5 v6 v7 v8 v9 v10 : PV) : J58_5 gate1 call k n v0 v1 v2 v3 v4 v5 v6 v7 v8 v9 v10 =
  L58_4 gate1 call k n (v0) (v1) (v2) (v3) (v4) (v5) (v6) (v7) (v8) (v9) (PV.int IntKind.i64 (IntKind.i64.wrap (v10.toInt + 1))) := by rw [J58_5, gate1_app]; kernel_rfl
theorem J58_17_eq (call : CallF) (k : Nat) (v0 v1 v2 v3 v4 v5 v6 : PV) : J58_17 gate1 call k v0 v1 v2 v3 v4 v5 v6 =
  let c5 := call 12 [AO.pv (Ty.st 23) (PV.agg [v0, v1, v2, v3, v4])]
  bif okRes (Ty.st 25) c5 then
    some ([AO.pv (Ty.st 25) (PV.agg [(resPV c5).cell 0, (resPV c5).cell 1])], [])
  else
    none := by rw [J58_17, gate1_app]; kernel_rfl
theorem J58_13_eq (call : CallF) (k : Nat) (v0 v1 v2 v3 v4 v5 v6 v7 v8 v9 : PV) : J58_13 gate1 call k v0 v1 v2 v3 v4 v5 v6 v7 v8 v9 =
  bif v4.toStr.data.toList == (ByteArray.mk #[110, 111, 110, 101]).data.toList then
    some ([AO.pv (Ty.st 25) (PV.agg [PV.int IntKind.i64 0, PV.int IntKind.i64 0])], [])
  else
    bif v5.toBool then
      let c4 := call 11 [AO.pv (Ty.st 23) (PV.agg [v0, v1, v2, v3, v4])]
      bif okRes (Ty.st 25) c4 then
        some ([AO.pv (Ty.st 25) (PV.agg [(resPV c4).cell 0, (resPV c4).cell 1])], [])
      else
        none
    else
      J58_17 gate1 call k (v0) (v1) (v2) (v3) (v4) (v8) (v9) := by rw [J58_13, gate1_app]; kernel_rfl
theorem J58_11_eq (call : CallF) (k : Nat) (v0 v1 v2 v3 v4 v5 v6 v7 v8 v9 v10 v11 v12 v13 v14 : PV) : J58_11 gate1 call k v0 v1 v2 v3 v4 v5 v6 v7 v8 v9 v10 v11 v12 v13 v14 =
  bif leI (v10.toInt) (v2.toInt) then
    let c3 := call 42 [AO.pv (Ty.int IntKind.i64) v11, AO.pv (Ty.int IntKind.i64) v10]
    bif okRes (Ty.st 25) c3 then
      some ([AO.pv (Ty.st 25) (PV.agg [(resPV c3).cell 0, (resPV c3).cell 1])], [])
    else
      none
  else
    J58_13 gate1 call k (v0) (v1) (v2) (v3) (v4) (v5) (v6) (v7) (v8) (v9) := by rw [J58_11, gate1_app]; kernel_rfl
theorem J58_10_eq (call : CallF) (k : Nat) (v0 v1 v2 v3 v4 v5 v6 v7 v8 v9 v10 v11 v12 v13 : PV) : J58_10 gate1 call k v0 v1 v2 v3 v4 v5 v6 v7 v8 v9 v10 v11 v12 v13 =
  J58_11 gate1 call k (v0) (v1) (v2) (v3) (v4) (v5) (v6) (v7) (v8) (v9) (PV.int IntKind.i64 (IntKind.i64.wrap (v10.toInt + 1))) (PV.int IntKind.i64 (IntKind.i64.wrap (v11.toInt.tdiv 2))) (v12) (PV.int IntKind.i64 (IntKind.i64.wrap (v11.toInt.tdiv 2))) (PV.int IntKind.i64 (IntKind.i64.wrap (v10.toInt + 1))) := by rw [J58_10, gate1_app]; kernel_rfl
theorem J58_11s1_eq (call : CallF) (k : Nat) (v0 v1 v2 v3 v4 v5 v6 v7 v8 v9 v10 v11 v12 : PV) : J58_11s1 gate1 call k v0 v1 v2 v3 v4 v5 v6 v7 v8 v9 v10 v11 v12 =
  bif leI (v10.toInt) (v2.toInt) then
    let c6 := call 42 [AO.pv (Ty.int IntKind.i64) v11, AO.pv (Ty.int IntKind.i64) v10]
    bif okRes (Ty.st 25) c6 then
      some ([AO.pv (Ty.st 25) (PV.agg [(resPV c6).cell 0, (resPV c6).cell 1])], [])
    else
      none
  else
    J58_13 gate1 call k (v0) (v1) (v2) (v3) (v4) (v5) (v6) (v7) (v8) (v9) := by rw [J58_11s1, gate1_app]; kernel_rfl
theorem J58_6_eq (call : CallF) (k : Nat) (v0 v1 v2 v3 v4 v5 v6 v7 v8 v9 v10 : PV) : J58_6 gate1 call k v0 v1 v2 v3 v4 v5 v6 v7 v8 v9 v10 =
  bif leI (v10.toInt) (v2.toInt) then
    let c1 := call 63 [AO.pv (Ty.st 51) (PV.agg [v5, v6, v7]), AO.pv (Ty.int IntKind.i64) (PV.int IntKind.i64 (IntKind.i64.wrap (0 - v10.toInt))), AO.pv Ty.str v3]
    bif okRes (Ty.st 71) c1 then
      let c2 := call 64 [AO.pv (Ty.st 71) (resPV c1)]
      bif okRes (Ty.int IntKind.i64) c2 then
        bif ltI (IntKind.u64.wrap v1.toInt) (0) then
          none
        else
          bif eqI ((resPV c2).toInt) (IntKind.i64.wrap (1 * 2 ^ min (IntKind.u64.wrap v1.toInt).toNat 64)) then
            J58_10 gate1 call k (v0) (v1) (v2) (v3) (v4) (v5) (v6) (v7) (v8) (v9) (v10) (resPV c2) (resPV c2) (PV.bool true)
          else
            bif eqI ((resPV c2).toInt) (IntKind.i64.wrap (0 - IntKind.i64.wrap (1 * 2 ^ min (IntKind.u64.wrap v1.toInt).toNat 64))) then
              J58_10 gate1 call k (v0) (v1) (v2) (v3) (v4) (v5) (v6) (v7) (v8) (v9) (v10) (resPV c2) (resPV c2) (PV.bool true)
            else
              J58_11s1 gate1 call k (v0) (v1) (v2) (v3) (v4) (v5) (v6) (v7) (v8) (v9) (v10) (resPV c2) (resPV c2)
      else
        none
    else
      none
  else
    J58_13 gate1 call k (v0) (v1) (v2) (v3) (v4) (v5) (v6) (v7) (v8) (v9) := by rw [J58_6, gate1_app]; kernel_rfl
theorem L58_4_succ (G : Gate) (call : CallF) (k n : Nat) (v0 v1 v2 v3 v4 v5 v6 v7 v8 v9 v10 : PV) : L58_4 G call k (n + 1) v0 v1 v2 v3 v4 v5 v6 v7 v8 v9 v10 =
  bif leI (v10.toInt) (v2.toInt) then
    let c0 := call 65 [AO.pv (Ty.st 51) (PV.agg [v5, v6, v7]), AO.pv (Ty.int IntKind.i64) (PV.int IntKind.i64 (IntKind.i64.wrap (v1.toInt + v10.toInt)))]
    bif okRes Ty.bool c0 then
      bif !(resPV c0).toBool then
        J58_5 G call k n (v0) (v1) (v2) (v3) (v4) (v5) (v6) (v7) (v8) (v9) (v10)
      else
  J58_6 G call k (v0) (v1) (v2) (v3) (v4) (v5) (v6) (v7) (v8) (v9) (v10)
    else
      none
  else
  J58_6 G call k (v0) (v1) (v2) (v3) (v4) (v5) (v6) (v7) (v8) (v9) (v10) := by kernel_rfl
theorem J58_3_eq (call : CallF) (k : Nat) (v0 v1 v2 v3 v4 v5 v6 v7 v8 v9 : PV) : J58_3 gate1 call k v0 v1 v2 v3 v4 v5 v6 v7 v8 v9 =
  L58_4 gate1 call k k (v0) (v1) (v2) (v3) (v4) (v5) (v6) (v7) (v8) (v9) (PV.int IntKind.i64 (IntKind.i64.wrap (0 - v2.toInt))) := by rw [J58_3, gate1_app]; kernel_rfl
theorem R58 (call : CallF) (k : Nat) (x0 x1 : PV) : evStep Tryd.prog H0 call k 58 [AO.pv (Ty.st 23) x0, AO.pv (Ty.st 51) x1] =
  bif eqI ((x1.cell 1).toInt) (0) then
    some ([AO.pv (Ty.st 25) (PV.agg [PV.int IntKind.i64 0, PV.int IntKind.i64 1])], [])
  else
    J58_3 gate1 call k (x0.cell 0) (x0.cell 1) (x0.cell 2) (x0.cell 3) (x0.cell 4) (x1.cell 0) (x1.cell 1) (x1.cell 2) (PV.int IntKind.i64 0) (PV.int IntKind.i64 0) := by rw [evStep_eq]; kernel_rfl
def SJ65_4 (v0 v1 v2 v3 : PV) : St := [dd, AV.o (AO.pv (Ty.int IntKind.i64) v0), AV.o (AO.box 51 [AO.pv Ty.bool v1, AO.pv (Ty.int IntKind.u64) v2, AO.pv (Ty.int IntKind.u64) v3]), dd, dd, dd, dd, dd, dd, dd, dd, dd, dd, dd, dd, dd, dd, dd, dd, dd, dd, dd, dd, dd, dd, dd, dd, dd, dd, dd, dd, dd, dd, dd, dd, dd, dd, dd, dd, dd, dd, dd, dd, dd, dd, dd]
noncomputable def J65_4 (G : Gate) (call : CallF) (k : Nat) (v0 v1 v2 v3 : PV) : R := G 4 (regAt Tryd.prog call 65 [.b, .b, .a]) (SJ65_4 v0 v1 v2 v3) (behind Tryd.prog H0 G call k 65 [.b, .b, .a] .normal)
theorem J65_4_eq (call : CallF) (k : Nat) (v0 v1 v2 v3 : PV) : J65_4 gate1 call k v0 v1 v2 v3 =
  bif ltI (IntKind.u64.wrap (IntKind.i64.wrap (0 - v0.toInt))) (0) then
    none
  else
    let c1 := call 73 [AO.pv (Ty.int IntKind.u64) v2, AO.pv (Ty.int IntKind.u64) (PV.int IntKind.u64 (IntKind.u64.wrap (1 * 2 ^ min (IntKind.u64.wrap (IntKind.i64.wrap (0 - v0.toInt))).toNat 64)))]
    bif !Nat.beq 2 1 && okMany (List.map (tyOf Tryd.prog) #[49, 49].toList) c1 then
      bif eqI ((resAt 0 c1).toInt) (0) then
        some ([AO.pv Ty.bool (PV.bool (ltI ((resAt 1 c1).toInt) (v3.toInt)))], [])
      else
        some ([AO.pv Ty.bool (PV.bool false)], [])
    else
      none := by rw [J65_4, gate1_app]; kernel_rfl
theorem R65 (call : CallF) (k : Nat) (x0 x1 : PV) : evStep Tryd.prog H0 call k 65 [AO.pv (Ty.st 51) x0, AO.pv (Ty.int IntKind.i64) x1] =
  bif leI (0) (x1.toInt) then
    bif ltI (IntKind.u64.wrap x1.toInt) (0) then
      none
    else
      let c0 := call 73 [AO.pv (Ty.int IntKind.u64) (x0.cell 2), AO.pv (Ty.int IntKind.u64) (PV.int IntKind.u64 (IntKind.u64.wrap (1 * 2 ^ min (IntKind.u64.wrap x1.toInt).toNat 64)))]
      bif !Nat.beq 2 1 && okMany (List.map (tyOf Tryd.prog) #[49, 49].toList) c0 then
        bif ltI (0) ((resAt 0 c0).toInt) then
          some ([AO.pv Ty.bool (PV.bool true)], [])
        else
          some ([AO.pv Ty.bool (PV.bool (ltI ((x0.cell 1).toInt) ((resAt 1 c0).toInt)))], [])
      else
        none
  else
    J65_4 gate1 call k (x1) (x0.cell 0) (x0.cell 1) (x0.cell 2) := by rw [evStep_eq]; kernel_rfl
end Go.V

set_option maxRecDepth 100000
set_option linter.unusedVariables false
namespace Go.V
open Go.Proofs
theorem R83 (call : CallF) (k : Nat) (x0 : PV) : evStep Tryd.prog H0 call k 83 [AO.pv (Ty.int IntKind.u64) x0] =
  let c0 := call 85 [AO.pv (Ty.int IntKind.u64) x0]
  bif okRes (Ty.int IntKind.i64) c0 then
    some ([AO.pv (Ty.int IntKind.i64) (PV.int IntKind.i64 (IntKind.i64.wrap (64 - (resPV c0).toInt)))], [])
  else
    none := by rw [evStep_eq]; kernel_rfl
def SJ85_10 (v0 v1 v2 v3 v4 v5 v6 : PV) : St := [AV.o (AO.pv (Ty.int IntKind.u64) v0), dd, AV.o (AO.pv (Ty.int IntKind.i64) v1), dd, dd, dd, AV.o (AO.pv (Ty.int IntKind.u64) v2), dd, dd, dd, AV.o (AO.pv (Ty.int IntKind.u64) v3), dd, AV.o (AO.pv (Ty.int IntKind.i64) v4), dd, dd, dd, AV.o (AO.pv (Ty.int IntKind.u64) v5), dd, AV.o (AO.pv (Ty.int IntKind.i64) v6), dd, dd, dd, dd, dd, dd]
noncomputable def J85_10 (G : Gate) (call : CallF) (k : Nat) (v0 v1 v2 v3 v4 v5 v6 : PV) : R := G 10 (regAt Tryd.prog call 85 [.b, .b, .b, .b, .a]) (SJ85_10 v0 v1 v2 v3 v4 v5 v6) (behind Tryd.prog H0 G call k 85 [.b, .b, .b, .b, .a] .normal)
def SJ85_10s1 (v0 v1 v2 v3 v4 : PV) : St := [AV.o (AO.pv (Ty.int IntKind.u64) v0), dd, AV.o (AO.pv (Ty.int IntKind.i64) v1), dd, dd, dd, AV.o (AO.pv (Ty.int IntKind.u64) v2), dd, dd, dd, AV.o (AO.pv (Ty.int IntKind.u64) v3), dd, AV.o (AO.pv (Ty.int IntKind.i64) v4), dd, dd, dd, dd, dd, dd, dd, dd, dd, dd, dd, dd]
noncomputable def J85_10s1 (G : Gate) (call : CallF) (k : Nat) (v0 v1 v2 v3 v4 : PV) : R := G 10 (regAt Tryd.prog call 85 [.b, .b, .b, .b, .a]) (SJ85_10s1 v0 v1 v2 v3 v4) (behind Tryd.prog H0 G call k 85 [.b, .b, .b, .b, .a] .normal)
def SJ85_7 (v0 v1 v2 v3 v4 : PV) : St := [AV.o (AO.pv (Ty.int IntKind.u64) v0), dd, AV.o (AO.pv (Ty.int IntKind.i64) v1), dd, dd, dd, AV.o (AO.pv (Ty.int IntKind.u64) v2), dd, dd, dd, AV.o (AO.pv (Ty.int IntKind.u64) v3), dd, AV.o (AO.pv (Ty.int IntKind.i64) v4), dd, dd, dd, dd, dd, dd, dd, dd, dd, dd, dd, dd]
noncomputable def J85_7 (G : Gate) (call : CallF) (k : Nat) (v0 v1 v2 v3 v4 : PV) : R := G 7 (regAt Tryd.prog call 85 [.b, .b, .b, .a, .a]) (SJ85_7 v0 v1 v2 v3 v4) (behind Tryd.prog H0 G call k 85 [.b, .b, .b, .a, .a] .normal)
def SJ85_10s2 (v0 v1 v2 v3 v4 : PV) : St := [AV.o (AO.pv (Ty.int IntKind.u64) v0), dd, AV.o (AO.pv (Ty.int IntKind.i64) v1), dd, dd, dd, AV.o (AO.pv (Ty.int IntKind.u64) v2), dd, dd, dd, dd, dd, dd, dd, dd, dd, AV.o (AO.pv (Ty.int IntKind.u64) v3), dd, AV.o (AO.pv (Ty.int IntKind.i64) v4), dd, dd, dd, dd, dd, dd]
noncomputable def J85_10s2 (G : Gate) (call : CallF) (k : Nat) (v0 v1 v2 v3 v4 : PV) : R := G 10 (regAt Tryd.prog call 85 [.b, .b, .b, .b, .a]) (SJ85_10s2 v0 v1 v2 v3 v4) (behind Tryd.prog H0 G call k 85 [.b, .b, .b, .b, .a] .normal)
def SJ85_10s3 (v0 v1 v2 : PV) : St := [AV.o (AO.pv (Ty.int IntKind.u64) v0), dd, AV.o (AO.pv (Ty.int IntKind.i64) v1), dd, dd, dd, AV.o (AO.pv (Ty.int IntKind.u64) v2), dd, dd, dd, dd, dd, dd, dd, dd, dd, dd, dd, dd, dd, dd, dd, dd, dd, dd]
noncomputable def J85_10s3 (G : Gate) (call : CallF) (k : Nat) (v0 v1 v2 : PV) : R := G 10 (regAt Tryd.prog call 85 [.b, .b, .b, .b, .a]) (SJ85_10s3 v0 v1 v2) (behind Tryd.prog H0 G call k 85 [.b, .b, .b, .b, .a] .normal)
def SJ85_7s1 (v0 v1 v2 : PV) : St := [AV.o (AO.pv (Ty.int IntKind.u64) v0), dd, AV.o (AO.pv (Ty.int IntKind.i64) v1), dd, dd, dd, AV.o (AO.pv (Ty.int IntKind.u64) v2), dd, dd, dd, dd, dd, dd, dd, dd, dd, dd, dd, dd, dd, dd, dd, dd, dd, dd]
noncomputable def J85_7s1 (G : Gate) (call : CallF) (k : Nat) (v0 v1 v2 : PV) : R := G 7 (regAt Tryd.prog call 85 [.b, .b, .b, .a, .a]) (SJ85_7s1 v0 v1 v2) (behind Tryd.prog H0 G call k 85 [.b, .b, .b, .a, .a] .normal)
def SJ85_4 (v0 v1 v2 : PV) : St := [AV.o (AO.pv (Ty.int IntKind.u64) v0), dd, AV.o (AO.pv (Ty.int IntKind.i64) v1), dd, dd, dd, AV.o (AO.pv (Ty.int IntKind.u64) v2), dd, dd, dd, dd, dd, dd, dd, dd, dd, dd, dd, dd, dd, dd, dd, dd, dd, dd]
noncomputable def J85_4 (G : Gate) (call : CallF) (k : Nat) (v0 v1 v2 : PV) : R := G 4 (regAt Tryd.prog call 85 [.b, .b, .a, .a]) (SJ85_4 v0 v1 v2) (behind Tryd.prog H0 G call k 85 [.b, .b, .a, .a] .normal)
def SJ85_10s4 (v0 v1 v2 v3 v4 v5 : PV) : St := [AV.o (AO.pv (Ty.int IntKind.u64) v0), dd, AV.o (AO.pv (Ty.int IntKind.i64) v1), dd, dd, dd, dd, dd, dd, dd, AV.o (AO.pv (Ty.int IntKind.u64) v2), dd, AV.o (AO.pv (Ty.int IntKind.i64) v3), dd, dd, dd, AV.o (AO.pv (Ty.int IntKind.u64) v4), dd, AV.o (AO.pv (Ty.int IntKind.i64) v5), dd, dd, dd, dd, dd, dd]
noncomputable def J85_10s4 (G : Gate) (call : CallF) (k : Nat) (v0 v1 v2 v3 v4 v5 : PV) : R := G 10 (regAt Tryd.prog call 85 [.b, .b, .b, .b, .a]) (SJ85_10s4 v0 v1 v2 v3 v4 v5) (behind Tryd.prog H0 G call k 85 [.b, .b, .b, .b, .a] .normal)
def SJ85_10s5 (v0 v1 v2 v3 : PV) : St := [AV.o (AO.pv (Ty.int IntKind.u64) v0), dd, AV.o (AO.pv (Ty.int IntKind.i64) v1), dd, dd, dd, dd, dd, dd, dd, AV.o (AO.pv (Ty.int IntKind.u64) v2), dd, AV.o (AO.pv (Ty.int IntKind.i64) v3), dd, dd, dd, dd, dd, dd, dd, dd, dd, dd, dd, dd]
noncomputable def J85_10s5 (G : Gate) (call : CallF) (k : Nat) (v0 v1 v2 v3 : PV) : R := G 10 (regAt Tryd.prog call 85 [.b, .b, .b, .b, .a]) (SJ85_10s5 v0 v1 v2 v3) (behind Tryd.prog H0 G call k 85 [.b, .b, .b, .b, .a] .normal)
def SJ85_7s2 (v0 v1 v2 v3 : PV) : St := [AV.o (AO.pv (Ty.int IntKind.u64) v0), dd, AV.o (AO.pv (Ty.int IntKind.i64) v1), dd, dd, dd, dd, dd, dd, dd, AV.o (AO.pv (Ty.int IntKind.u64) v2), dd, AV.o (AO.pv (Ty.int IntKind.i64) v3), dd, dd, dd, dd, dd, dd, dd, dd, dd, dd, dd, dd]
noncomputable def J85_7s2 (G : Gate) (call : CallF) (k : Nat) (v0 v1 v2 v3 : PV) : R := G 7 (regAt Tryd.prog call 85 [.b, .b, .b, .a, .a]) (SJ85_7s2 v0 v1 v2 v3) (behind Tryd.prog H0 G call k 85 [.b, .b, .b, .a, .a] .normal)
def SJ85_10s6 (v0 v1 v2 v3 : PV) : St := [AV.o (AO.pv (Ty.int IntKind.u64) v0), dd, AV.o (AO.pv (Ty.int IntKind.i64) v1), dd, dd, dd, dd, dd, dd, dd, dd, dd, dd, dd, dd, dd, AV.o (AO.pv (Ty.int IntKind.u64) v2), dd, AV.o (AO.pv (Ty.int IntKind.i64) v3), dd, dd, dd, dd, dd, dd]
noncomputable def J85_10s6 (G : Gate) (call : CallF) (k : Nat) (v0 v1 v2 v3 : PV) : R := G 10 (regAt Tryd.prog call 85 [.b, .b, .b, .b, .a]) (SJ85_10s6 v0 v1 v2 v3) (behind Tryd.prog H0 G call k 85 [.b, .b, .b, .b, .a] .normal)
def SJ85_10s7 (v0 v1 : PV) : St := [AV.o (AO.pv (Ty.int IntKind.u64) v0), dd, AV.o (AO.pv (Ty.int IntKind.i64) v1), dd, dd, dd, dd, dd, dd, dd, dd, dd, dd, dd, dd, dd, dd, dd, dd, dd, dd, dd, dd, dd, dd]
noncomputable def J85_10s7 (G : Gate) (call : CallF) (k : Nat) (v0 v1 : PV) : R := G 10 (regAt Tryd.prog call 85 [.b, .b, .b, .b, .a]) (SJ85_10s7 v0 v1) (behind Tryd.prog H0 G call k 85 [.b, .b, .b, .b, .a] .normal)
def SJ85_7s3 (v0 v1 : PV) : St := [AV.o (AO.pv (Ty.int IntKind.u64) v0), dd, AV.o (AO.pv (Ty.int IntKind.i64) v1), dd, dd, dd, dd, dd, dd, dd, dd, dd, dd, dd, dd, dd, dd, dd, dd, dd, dd, dd, dd, dd, dd]
noncomputable def J85_7s3 (G : Gate) (call : CallF) (k : Nat) (v0 v1 : PV) : R := G 7 (regAt Tryd.prog call 85 [.b, .b, .b, .a, .a]) (SJ85_7s3 v0 v1) (behind Tryd.prog H0 G call k 85 [.b, .b, .b, .a, .a] .normal)
def SJ85_4s1 (v0 v1 : PV) : St := [AV.o (AO.pv (Ty.int IntKind.u64) v0), dd, AV.o (AO.pv (Ty.int IntKind.i64) v1), dd, dd, dd, dd, dd, dd, dd, dd, dd, dd, dd, dd, dd, dd, dd, dd, dd, dd, dd, dd, dd, dd]
noncomputable def J85_4s1 (G : Gate) (call : CallF) (k : Nat) (v0 v1 : PV) : R := G 4 (regAt Tryd.prog call 85 [.b, .b, .a, .a]) (SJ85_4s1 v0 v1) (behind Tryd.prog H0 G call k 85 [.b, .b, .a, .a] .normal)
theorem J85_10_eq (call : CallF) (k : Nat) (v0 v1 v2 v3 v4 v5 v6 : PV) : J85_10 gate1 call k v0 v1 v2 v3 v4 v5 v6 =
  bif leI (0) (IntKind.u8.wrap v0.toInt) && ltI (IntKind.u8.wrap v0.toInt) ((Nat.cast 256 : Int)) then
    some ([AO.pv (Ty.int IntKind.i64) (PV.int IntKind.i64 (IntKind.i64.wrap (v1.toInt + IntKind.i64.wrap (Nat.cast (nth 0 (ByteArray.mk #[0, 1, 2, 2, 3, 3, 3, 3, 4, 4, 4, 4, 4, 4, 4, 4, 5, 5, 5, 5, 5, 5, 5, 5, 5, 5, 5, 5, 5, 5, 5, 5, 6, 6, 6, 6, 6, 6, 6, 6, 6, 6, 6, 6, 6, 6, 6, 6, 6, 6, 6, 6, 6, 6, 6, 6, 6, 6, 6, 6, 6, 6, 6, 6, 7, 7, 7, 7, 7, 7, 7, 7, 7, 7, 7, 7, 7, 7, 7, 7, 7, 7, 7, 7, 7, 7, 7, 7, 7, 7, 7, 7, 7, 7, 7, 7, 7, 7, 7, 7, 7, 7, 7, 7, 7, 7, 7, 7, 7, 7, 7, 7, 7, 7, 7, 7, 7, 7, 7, 7, 7, 7, 7, 7, 7, 7, 7, 7, 8, 8, 8, 8, 8, 8, 8, 8, 8, 8, 8, 8, 8, 8, 8, 8, 8, 8, 8, 8, 8, 8, 8, 8, 8, 8, 8, 8, 8, 8, 8, 8, 8, 8, 8, 8, 8, 8, 8, 8, 8, 8, 8, 8, 8, 8, 8, 8, 8, 8, 8, 8, 8, 8, 8, 8, 8, 8, 8, 8, 8, 8, 8, 8, 8, 8, 8, 8, 8, 8, 8, 8, 8, 8, 8, 8, 8, 8, 8, 8, 8, 8, 8, 8, 8, 8, 8, 8, 8, 8, 8, 8, 8, 8, 8, 8, 8, 8, 8, 8, 8, 8, 8, 8, 8, 8, 8, 8, 8, 8, 8, 8, 8, 8, 8, 8, 8, 8, 8, 8, 8, 8, 8, 8, 8, 8, 8, 8]).data.toList (IntKind.u8.wrap v0.toInt).toNat).toNat : Int))))], [])
  else
    none := by rw [J85_10, gate1_app]; kernel_rfl
theorem J85_10s1_eq (call : CallF) (k : Nat) (v0 v1 v2 v3 v4 : PV) : J85_10s1 gate1 call k v0 v1 v2 v3 v4 =
  bif leI (0) (IntKind.u8.wrap v0.toInt) && ltI (IntKind.u8.wrap v0.toInt) ((Nat.cast 256 : Int)) then
    some ([AO.pv (Ty.int IntKind.i64) (PV.int IntKind.i64 (IntKind.i64.wrap (v1.toInt + IntKind.i64.wrap (Nat.cast (nth 0 (ByteArray.mk #[0, 1, 2, 2, 3, 3, 3, 3, 4, 4, 4, 4, 4, 4, 4, 4, 5, 5, 5, 5, 5, 5, 5, 5, 5, 5, 5, 5, 5, 5, 5, 5, 6, 6, 6, 6, 6, 6, 6, 6, 6, 6, 6, 6, 6, 6, 6, 6, 6, 6, 6, 6, 6, 6, 6, 6, 6, 6, 6, 6, 6, 6, 6, 6, 7, 7, 7, 7, 7, 7, 7, 7, 7, 7, 7, 7, 7, 7, 7, 7, 7, 7, 7, 7, 7, 7, 7, 7, 7, 7, 7, 7, 7, 7, 7, 7, 7, 7, 7, 7, 7, 7, 7, 7, 7, 7, 7, 7, 7, 7, 7, 7, 7, 7, 7, 7, 7, 7, 7, 7, 7, 7, 7, 7, 7, 7, 7, 7, 8, 8, 8, 8, 8, 8, 8, 8, 8, 8, 8, 8, 8, 8, 8, 8, 8, 8, 8, 8, 8, 8, 8, 8, 8, 8, 8, 8, 8, 8, 8, 8, 8, 8, 8, 8, 8, 8, 8, 8, 8, 8, 8, 8, 8, 8, 8, 8, 8, 8, 8, 8, 8, 8, 8, 8, 8, 8, 8, 8, 8, 8, 8, 8, 8, 8, 8, 8, 8, 8, 8, 8, 8, 8, 8, 8, 8, 8, 8, 8, 8, 8, 8, 8, 8, 8, 8, 8, 8, 8, 8, 8, 8, 8, 8, 8, 8, 8, 8, 8, 8, 8, 8, 8, 8, 8, 8, 8, 8, 8, 8, 8, 8, 8, 8, 8, 8, 8, 8, 8, 8, 8, 8, 8, 8, 8, 8, 8]).data.toList (IntKind.u8.wrap v0.toInt).toNat).toNat : Int))))], [])
  else
    none := by rw [J85_10s1, gate1_app]; kernel_rfl
theorem J85_7_eq (call : CallF) (k : Nat) (v0 v1 v2 v3 v4 : PV) : J85_7 gate1 call k v0 v1 v2 v3 v4 =
  bif leI (256) (v0.toInt) then
    J85_10 gate1 call k (PV.int IntKind.u64 (v0.toInt.fdiv (2 ^ 8))) (PV.int IntKind.i64 (IntKind.i64.wrap (v1.toInt + 8))) (v2) (v3) (v4) (PV.int IntKind.u64 (v0.toInt.fdiv (2 ^ 8))) (PV.int IntKind.i64 (IntKind.i64.wrap (v1.toInt + 8)))
  else
    J85_10s1 gate1 call k (v0) (v1) (v2) (v3) (v4) := by rw [J85_7, gate1_app]; kernel_rfl
theorem J85_10s2_eq (call : CallF) (k : Nat) (v0 v1 v2 v3 v4 : PV) : J85_10s2 gate1 call k v0 v1 v2 v3 v4 =
  bif leI (0) (IntKind.u8.wrap v0.toInt) && ltI (IntKind.u8.wrap v0.toInt) ((Nat.cast 256 : Int)) then
    some ([AO.pv (Ty.int IntKind.i64) (PV.int IntKind.i64 (IntKind.i64.wrap (v1.toInt + IntKind.i64.wrap (Nat.cast (nth 0 (ByteArray.mk #[0, 1, 2, 2, 3, 3, 3, 3, 4, 4, 4, 4, 4, 4, 4, 4, 5, 5, 5, 5, 5, 5, 5, 5, 5, 5, 5, 5, 5, 5, 5, 5, 6, 6, 6, 6, 6, 6, 6, 6, 6, 6, 6, 6, 6, 6, 6, 6, 6, 6, 6, 6, 6, 6, 6, 6, 6, 6, 6, 6, 6, 6, 6, 6, 7, 7, 7, 7, 7, 7, 7, 7, 7, 7, 7, 7, 7, 7, 7, 7, 7, 7, 7, 7, 7, 7, 7, 7, 7, 7, 7, 7, 7, 7, 7, 7, 7, 7, 7, 7, 7, 7, 7, 7, 7, 7, 7, 7, 7, 7, 7, 7, 7, 7, 7, 7, 7, 7, 7, 7, 7, 7, 7, 7, 7, 7, 7, 7, 8, 8, 8, 8, 8, 8, 8, 8, 8, 8, 8, 8, 8, 8, 8, 8, 8, 8, 8, 8, 8, 8, 8, 8, 8, 8, 8, 8, 8, 8, 8, 8, 8, 8, 8, 8, 8, 8, 8, 8, 8, 8, 8, 8, 8, 8, 8, 8, 8, 8, 8, 8, 8, 8, 8, 8, 8, 8, 8, 8, 8, 8, 8, 8, 8, 8, 8, 8, 8, 8, 8, 8, 8, 8, 8, 8, 8, 8, 8, 8, 8, 8, 8, 8, 8, 8, 8, 8, 8, 8, 8, 8, 8, 8, 8, 8, 8, 8, 8, 8, 8, 8, 8, 8, 8, 8, 8, 8, 8, 8, 8, 8, 8, 8, 8, 8, 8, 8, 8, 8, 8, 8, 8, 8, 8, 8, 8, 8]).data.toList (IntKind.u8.wrap v0.toInt).toNat).toNat : Int))))], [])
  else
    none := by rw [J85_10s2, gate1_app]; kernel_rfl
theorem J85_10s3_eq (call : CallF) (k : Nat) (v0 v1 v2 : PV) : J85_10s3 gate1 call k v0 v1 v2 =
  bif leI (0) (IntKind.u8.wrap v0.toInt) && ltI (IntKind.u8.wrap v0.toInt) ((Nat.cast 256 : Int)) then
    some ([AO.pv (Ty.int IntKind.i64) (PV.int IntKind.i64 (IntKind.i64.wrap (v1.toInt + IntKind.i64.wrap (Nat.cast (nth 0 (ByteArray.mk #[0, 1, 2, 2, 3, 3, 3, 3, 4, 4, 4, 4, 4, 4, 4, 4, 5, 5, 5, 5, 5, 5, 5, 5, 5, 5, 5, 5, 5, 5, 5, 5, 6, 6, 6, 6, 6, 6, 6, 6, 6, 6, 6, 6, 6, 6, 6, 6, 6, 6, 6, 6, 6, 6, 6, 6, 6, 6, 6, 6, 6, 6, 6, 6, 7, 7, 7, 7, 7, 7, 7, 7, 7, 7, 7, 7, 7, 7, 7, 7, 7, 7, 7, 7, 7, 7, 7, 7, 7, 7, 7, 7, 7, 7, 7, 7, 7, 7, 7, 7, 7, 7, 7, 7, 7, 7, 7, 7, 7, 7, 7, 7, 7, 7, 7, 7, 7, 7, 7, 7, 7, 7, 7, 7, 7, 7, 7, 7, 8, 8, 8, 8, 8, 8, 8, 8, 8, 8, 8, 8, 8, 8, 8, 8, 8, 8, 8, 8, 8, 8, 8, 8, 8, 8, 8, 8, 8, 8, 8, 8, 8, 8, 8, 8, 8, 8, 8, 8, 8, 8, 8, 8, 8, 8, 8, 8, 8, 8, 8, 8, 8, 8, 8, 8, 8, 8, 8, 8, 8, 8, 8, 8, 8, 8, 8, 8, 8, 8, 8, 8, 8, 8, 8, 8, 8, 8, 8, 8, 8, 8, 8, 8, 8, 8, 8, 8, 8, 8, 8, 8, 8, 8, 8, 8, 8, 8, 8, 8, 8, 8, 8, 8, 8, 8, 8, 8, 8, 8, 8, 8, 8, 8, 8, 8, 8, 8, 8, 8, 8, 8, 8, 8, 8, 8, 8, 8]).data.toList (IntKind.u8.wrap v0.toInt).toNat).toNat : Int))))], [])
  else
    none := by rw [J85_10s3, gate1_app]; kernel_rfl
theorem J85_7s1_eq (call : CallF) (k : Nat) (v0 v1 v2 : PV) : J85_7s1 gate1 call k v0 v1 v2 =
  bif leI (256) (v0.toInt) then
    J85_10s2 gate1 call k (PV.int IntKind.u64 (v0.toInt.fdiv (2 ^ 8))) (PV.int IntKind.i64 (IntKind.i64.wrap (v1.toInt + 8))) (v2) (PV.int IntKind.u64 (v0.toInt.fdiv (2 ^ 8))) (PV.int IntKind.i64 (IntKind.i64.wrap (v1.toInt + 8)))
  else
    J85_10s3 gate1 call k (v0) (v1) (v2) := by rw [J85_7s1, gate1_app]; kernel_rfl
theorem J85_4_eq (call : CallF) (k : Nat) (v0 v1 v2 : PV) : J85_4 gate1 call k v0 v1 v2 =
  bif leI (65536) (v0.toInt) then
    J85_7 gate1 call k (PV.int IntKind.u64 (v0.toInt.fdiv (2 ^ 16))) (PV.int IntKind.i64 (IntKind.i64.wrap (v1.toInt + 16))) (v2) (PV.int IntKind.u64 (v0.toInt.fdiv (2 ^ 16))) (PV.int IntKind.i64 (IntKind.i64.wrap (v1.toInt + 16)))
  else
    J85_7s1 gate1 call k (v0) (v1) (v2) := by rw [J85_4, gate1_app]; kernel_rfl
theorem J85_10s4_eq (call : CallF) (k : Nat) (v0 v1 v2 v3 v4 v5 : PV) : J85_10s4 gate1 call k v0 v1 v2 v3 v4 v5 =
  bif leI (0) (IntKind.u8.wrap v0.toInt) && ltI (IntKind.u8.wrap v0.toInt) ((Nat.cast 256 : Int)) then
    some ([AO.pv (Ty.int IntKind.i64) (PV.int IntKind.i64 (IntKind.i64.wrap (v1.toInt + IntKind.i64.wrap (Nat.cast (nth 0 (ByteArray.mk #[0, 1, 2, 2, 3, 3, 3, 3, 4, 4, 4, 4, 4, 4, 4, 4, 5, 5, 5, 5, 5, 5, 5, 5, 5, 5, 5, 5, 5, 5, 5, 5, 6, 6, 6, 6, 6, 6, 6, 6, 6, 6, 6, 6, 6, 6, 6, 6, 6, 6, 6, 6, 6, 6, 6, 6, 6, 6, 6, 6, 6, 6, 6, 6, 7, 7, 7, 7, 7, 7, 7, 7, 7, 7, 7, 7, 7, 7, 7, 7, 7, 7, 7, 7, 7, 7, 7, 7, 7, 7, 7, 7, 7, 7, 7, 7, 7, 7, 7, 7, 7, 7, 7, 7, 7, 7, 7, 7, 7, 7, 7, 7, 7, 7, 7, 7, 7, 7, 7, 7, 7, 7, 7, 7, 7, 7, 7, 7, 8, 8, 8, 8, 8, 8, 8, 8, 8, 8, 8, 8, 8, 8, 8, 8, 8, 8, 8, 8, 8, 8, 8, 8, 8, 8, 8, 8, 8, 8, 8, 8, 8, 8, 8, 8, 8, 8, 8, 8, 8, 8, 8, 8, 8, 8, 8, 8, 8, 8, 8, 8, 8, 8, 8, 8, 8, 8, 8, 8, 8, 8, 8, 8, 8, 8, 8, 8, 8, 8, 8, 8, 8, 8, 8, 8, 8, 8, 8, 8, 8, 8, 8, 8, 8, 8, 8, 8, 8, 8, 8, 8, 8, 8, 8, 8, 8, 8, 8, 8, 8, 8, 8, 8, 8, 8, 8, 8, 8, 8, 8, 8, 8, 8, 8, 8, 8, 8, 8, 8, 8, 8, 8, 8, 8, 8, 8, 8]).data.toList (IntKind.u8.wrap v0.toInt).toNat).toNat : Int))))], [])
  else
    none := by rw [J85_10s4, gate1_app]; kernel_rfl
theorem J85_10s5_eq (call : CallF) (k : Nat) (v0 v1 v2 v3 : PV) : J85_10s5 gate1 call k v0 v1 v2 v3 =
  bif leI (0) (IntKind.u8.wrap v0.toInt) && ltI (IntKind.u8.wrap v0.toInt) ((Nat.cast 256 : Int)) then
    some ([AO.pv (Ty.int IntKind.i64) (PV.int IntKind.i64 (IntKind.i64.wrap (v1.toInt + IntKind.i64.wrap (Nat.cast (nth 0 (ByteArray.mk #[0, 1, 2, 2, 3, 3, 3, 3, 4, 4, 4, 4, 4, 4, 4, 4, 5, 5, 5, 5, 5, 5, 5, 5, 5, 5, 5, 5, 5, 5, 5, 5, 6, 6, 6, 6, 6, 6, 6, 6, 6, 6, 6, 6, 6, 6, 6, 6, 6, 6, 6, 6, 6, 6, 6, 6, 6, 6, 6, 6, 6, 6, 6, 6, 7, 7, 7, 7, 7, 7, 7, 7, 7, 7, 7, 7, 7, 7, 7, 7, 7, 7, 7, 7, 7, 7, 7, 7, 7, 7, 7, 7, 7, 7, 7, 7, 7, 7, 7, 7, 7, 7, 7, 7, 7, 7, 7, 7, 7, 7, 7, 7, 7, 7, 7, 7, 7, 7, 7, 7, 7, 7, 7, 7, 7, 7, 7, 7, 8, 8, 8, 8, 8, 8, 8, 8, 8, 8, 8, 8, 8, 8, 8, 8, 8, 8, 8, 8, 8, 8, 8, 8, 8, 8, 8, 8, 8, 8, 8, 8, 8, 8, 8, 8, 8, 8, 8, 8, 8, 8, 8, 8, 8, 8, 8, 8, 8, 8, 8, 8, 8, 8, 8, 8, 8, 8, 8, 8, 8, 8, 8, 8, 8, 8, 8, 8, 8, 8, 8, 8, 8, 8, 8, 8, 8, 8, 8, 8, 8, 8, 8, 8, 8, 8, 8, 8, 8, 8, 8, 8, 8, 8, 8, 8, 8, 8, 8, 8, 8, 8, 8, 8, 8, 8, 8, 8, 8, 8, 8, 8, 8, 8, 8, 8, 8, 8, 8, 8, 8, 8, 8, 8, 8, 8, 8, 8]).data.toList (IntKind.u8.wrap v0.toInt).toNat).toNat : Int))))], [])
  else
    none := by rw [J85_10s5, gate1_app]; kernel_rfl
theorem J85_7s2_eq (call : CallF) (k : Nat) (v0 v1 v2 v3 : PV) : J85_7s2 gate1 call k v0 v1 v2 v3 =
  bif leI (256) (v0.toInt) then
    J85_10s4 gate1 call k (PV.int IntKind.u64 (v0.toInt.fdiv (2 ^ 8))) (PV.int IntKind.i64 (IntKind.i64.wrap (v1.toInt + 8))) (v2) (v3) (PV.int IntKind.u64 (v0.toInt.fdiv (2 ^ 8))) (PV.int IntKind.i64 (IntKind.i64.wrap (v1.toInt + 8)))
  else
    J85_10s5 gate1 call k (v0) (v1) (v2) (v3) := by rw [J85_7s2, gate1_app]; kernel_rfl
theorem J85_10s6_eq (call : CallF) (k : Nat) (v0 v1 v2 v3 : PV) : J85_10s6 gate1 call k v0 v1 v2 v3 =
  bif leI (0) (IntKind.u8.wrap v0.toInt) && ltI (IntKind.u8.wrap v0.toInt) ((Nat.cast 256 : Int)) then
    some ([AO.pv (Ty.int IntKind.i64) (PV.int IntKind.i64 (IntKind.i64.wrap (v1.toInt + IntKind.i64.wrap (Nat.cast (nth 0 (ByteArray.mk #[0, 1, 2, 2, 3, 3, 3, 3, 4, 4, 4, 4, 4, 4, 4, 4, 5, 5, 5, 5, 5, 5, 5, 5, 5, 5, 5, 5, 5, 5, 5, 5, 6, 6, 6, 6, 6, 6, 6, 6, 6, 6, 6, 6, 6, 6, 6, 6, 6, 6, 6, 6, 6, 6, 6, 6, 6, 6, 6, 6, 6, 6, 6, 6, 7, 7, 7, 7, 7, 7, 7, 7, 7, 7, 7, 7, 7, 7, 7, 7, 7, 7, 7, 7, 7, 7, 7, 7, 7, 7, 7, 7, 7, 7, 7, 7, 7, 7, 7, 7, 7, 7, 7, 7, 7, 7, 7, 7, 7, 7, 7, 7, 7, 7, 7, 7, 7, 7, 7, 7, 7, 7, 7, 7, 7, 7, 7, 7, 8, 8, 8, 8, 8, 8, 8, 8, 8, 8, 8, 8, 8, 8, 8, 8, 8, 8, 8, 8, 8, 8, 8, 8, 8, 8, 8, 8, 8, 8, 8, 8, 8, 8, 8, 8, 8, 8, 8, 8, 8, 8, 8, 8, 8, 8, 8, 8, 8, 8, 8, 8, 8, 8, 8, 8, 8, 8, 8, 8, 8, 8, 8, 8, 8, 8, 8, 8, 8, 8, 8, 8, 8, 8, 8, 8, 8, 8, 8, 8, 8, 8, 8, 8, 8, 8, 8, 8, 8, 8, 8, 8, 8, 8, 8, 8, 8, 8, 8, 8, 8, 8, 8, 8, 8, 8, 8, 8, 8, 8, 8, 8, 8, 8, 8, 8, 8, 8, 8, 8, 8, 8, 8, 8, 8, 8, 8, 8]).data.toList (IntKind.u8.wrap v0.toInt).toNat).toNat : Int))))], [])
  else
    none := by rw [J85_10s6, gate1_app]; kernel_rfl
theorem J85_10s7_eq (call : CallF) (k : Nat) (v0 v1 : PV) : J85_10s7 gate1 call k v0 v1 =
  bif leI (0) (IntKind.u8.wrap v0.toInt) && ltI (IntKind.u8.wrap v0.toInt) ((Nat.cast 256 : Int)) then
    some ([AO.pv (Ty.int IntKind.i64) (PV.int IntKind.i64 (IntKind.i64.wrap (v1.toInt + IntKind.i64.wrap (Nat.cast (nth 0 (ByteArray.mk #[0, 1, 2, 2, 3, 3, 3, 3, 4, 4, 4, 4, 4, 4, 4, 4, 5, 5, 5, 5, 5, 5, 5, 5, 5, 5, 5, 5, 5, 5, 5, 5, 6, 6, 6, 6, 6, 6, 6, 6, 6, 6, 6, 6, 6, 6, 6, 6, 6, 6, 6, 6, 6, 6, 6, 6, 6, 6, 6, 6, 6, 6, 6, 6, 7, 7, 7, 7, 7, 7, 7, 7, 7, 7, 7, 7, 7, 7, 7, 7, 7, 7, 7, 7, 7, 7, 7, 7, 7, 7, 7, 7, 7, 7, 7, 7, 7, 7, 7, 7, 7, 7, 7, 7, 7, 7, 7, 7, 7, 7, 7, 7, 7, 7, 7, 7, 7, 7, 7, 7, 7, 7, 7, 7, 7, 7, 7, 7, 8, 8, 8, 8, 8, 8, 8, 8, 8, 8, 8, 8, 8, 8, 8, 8, 8, 8, 8, 8, 8, 8, 8, 8, 8, 8, 8, 8, 8, 8, 8, 8, 8, 8, 8, 8, 8, 8, 8, 8, 8, 8, 8, 8, 8, 8, 8, 8, 8, 8, 8, 8, 8, 8, 8, 8, 8, 8, 8, 8, 8, 8, 8, 8, 8, 8, 8, 8, 8, 8, 8, 8, 8, 8, 8, 8, 8, 8, 8, 8, 8, 8, 8, 8, 8, 8, 8, 8, 8, 8, 8, 8, 8, 8, 8, 8, 8, 8, 8, 8, 8, 8, 8, 8, 8, 8, 8, 8, 8, 8, 8, 8, 8, 8, 8, 8, 8, 8, 8, 8, 8, 8, 8, 8, 8, 8, 8, 8]).data.toList (IntKind.u8.wrap v0.toInt).toNat).toNat : Int))))], [])
  else
    none := by rw [J85_10s7, gate1_app]; kernel_rfl
theorem J85_7s3_eq (call : CallF) (k : Nat) (v0 v1 : PV) : J85_7s3 gate1 call k v0 v1 =
  bif leI (256) (v0.toInt) then
    J85_10s6 gate1 call k (PV.int IntKind.u64 (v0.toInt.fdiv (2 ^ 8))) (PV.int IntKind.i64 (IntKind.i64.wrap (v1.toInt + 8))) (PV.int IntKind.u64 (v0.toInt.fdiv (2 ^ 8))) (PV.int IntKind.i64 (IntKind.i64.wrap (v1.toInt + 8)))
  else
    J85_10s7 gate1 call k (v0) (v1) := by rw [J85_7s3, gate1_app]; kernel_rfl
theorem J85_4s1_eq (call : CallF) (k : Nat) (v0 v1 : PV) : J85_4s1 gate1 call k v0 v1 =
  bif leI (65536) (v0.toInt) then
    J85_7s2 gate1 call k (PV.int IntKind.u64 (v0.toInt.fdiv (2 ^ 16))) (PV.int IntKind.i64 (IntKind.i64.wrap (v1.toInt + 16))) (PV.int IntKind.u64 (v0.toInt.fdiv (2 ^ 16))) (PV.int IntKind.i64 (IntKind.i64.wrap (v1.toInt + 16)))
  else
    J85_7s3 gate1 call k (v0) (v1) := by rw [J85_4s1, gate1_app]; kernel_rfl
theorem R85 (call : CallF) (k : Nat) (x0 : PV) : evStep Tryd.prog H0 call k 85 [AO.pv (Ty.int IntKind.u64) x0] =
  bif leI (4294967296) (x0.toInt) then
    J85_4 gate1 call k (PV.int IntKind.u64 (x0.toInt.fdiv (2 ^ 32))) (PV.int IntKind.i64 32) (PV.int IntKind.u64 (x0.toInt.fdiv (2 ^ 32)))
  else
    J85_4s1 gate1 call k (x0) (PV.int IntKind.i64 0) := by rw [evStep_eq]; kernel_rfl
end Go.V
