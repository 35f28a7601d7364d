/- What the evaluator makes of the law's functions, each as an equation of its own with its calls left open; and math/bits.Add64 as the model runs it. Conditions: none. -/
import Derived.Test.YtpkphcmnknjbeaaDoorVH
import Derived.Laws.Externs
set_option maxRecDepth 100000
set_option linter.unusedVariables false
namespace Go.V
open Go.Proofs
def SJ4_5 (v0 v1 v2 v3 v4 v5 v6 : PV) : St := [dd, dd, AV.o (AO.pv (Ty.int IntKind.i64) v0), AV.o (AO.box 23 [AO.pv Ty.str v1, AO.pv (Ty.int IntKind.i64) v2, AO.pv (Ty.int IntKind.i64) v3, AO.pv Ty.str v4, AO.pv Ty.str v5]), dd, dd, dd, dd, dd, dd, dd, dd, dd, dd, dd, dd, dd, dd, dd, dd, dd, dd, dd, dd, dd, dd, dd, dd, dd, dd, dd, dd, dd, dd, dd, dd, dd, dd, dd, dd, dd, dd, dd, dd, dd, dd, dd, dd, AV.o (AO.pv Ty.bool v6), dd, dd, dd, dd, dd, dd, dd, dd, dd, dd, dd, dd, dd, dd, dd, dd, dd, dd, dd, dd, dd, dd]
noncomputable def J4_5 (G : Gate) (call : CallF) (k : Nat) (v0 v1 v2 v3 v4 v5 v6 : PV) : R := G 5 (regAt Tryd.prog call 4 [.b, .a, .b, .x, .b, .b, .a, .b, .x, .a]) (SJ4_5 v0 v1 v2 v3 v4 v5 v6) (behind Tryd.prog H0 G call k 4 [.b, .a, .b, .x, .b, .b, .a, .b, .x, .a] .normal)
def SJ4_10 (v0 : PV) : St := [dd, dd, dd, dd, dd, dd, dd, dd, dd, dd, dd, dd, dd, dd, dd, dd, dd, dd, dd, dd, dd, dd, dd, dd, dd, dd, dd, dd, dd, dd, dd, dd, dd, dd, dd, dd, dd, dd, dd, dd, dd, dd, dd, dd, dd, dd, dd, dd, dd, dd, dd, dd, dd, dd, dd, dd, dd, dd, dd, dd, dd, dd, dd, dd, dd, dd, dd, dd, dd, AV.o (AO.pv Ty.bool v0), dd]
noncomputable def J4_10 (G : Gate) (call : CallF) (k : Nat) (v0 : PV) : R := G 10 (regAt Tryd.prog call 4 [.b, .a, .b, .x, .b, .b, .b, .b, .b, .x, .b, .b, .x, .a]) (SJ4_10 v0) (behind Tryd.prog H0 G call k 4 [.b, .a, .b, .x, .b, .b, .b, .b, .b, .x, .b, .b, .x, .a] .normal)
def SJ4_11  : St := [dd, dd, dd, dd, dd, dd, dd, dd, dd, dd, dd, dd, dd, dd, dd, dd, dd, dd, dd, dd, dd, dd, dd, dd, dd, dd, dd, dd, dd, dd, dd, dd, dd, dd, dd, dd, dd, dd, dd, dd, dd, dd, dd, dd, dd, dd, dd, dd, dd, dd, dd, dd, dd, dd, dd, dd, dd, dd, dd, dd, dd, dd, dd, dd, dd, dd, dd, dd, dd, dd, dd]
noncomputable def J4_11 (G : Gate) (call : CallF) (k : Nat)  : R := G 11 (regAt Tryd.prog call 4 [.b, .b, .a]) (SJ4_11 ) (behind Tryd.prog H0 G call k 4 [.b, .b, .a] .normal)
def SJ4_6 (v0 v1 v2 v3 v4 v5 : PV) : St := [dd, dd, AV.o (AO.pv (Ty.int IntKind.i64) v0), AV.o (AO.box 23 [AO.pv Ty.str v1, AO.pv (Ty.int IntKind.i64) v2, AO.pv (Ty.int IntKind.i64) v3, AO.pv Ty.str v4, AO.pv Ty.str v5]), dd, dd, dd, dd, dd, dd, dd, dd, dd, dd, dd, dd, dd, dd, dd, dd, dd, dd, dd, dd, dd, dd, dd, dd, dd, dd, dd, dd, dd, dd, dd, dd, dd, dd, dd, dd, dd, dd, dd, dd, dd, dd, dd, dd, dd, dd, dd, dd, dd, dd, dd, dd, dd, dd, dd, dd, dd, dd, dd, dd, dd, dd, dd, dd, dd, dd, dd]
noncomputable def J4_6 (G : Gate) (call : CallF) (k : Nat) (v0 v1 v2 v3 v4 v5 : PV) : R := G 6 (regAt Tryd.prog call 4 [.b, .a, .b, .x, .b, .b, .b, .a]) (SJ4_6 v0 v1 v2 v3 v4 v5) (behind Tryd.prog H0 G call k 4 [.b, .a, .b, .x, .b, .b, .b, .a] .normal)
def SJ4_2 (v0 v1 v2 v3 v4 v5 v6 v7 v8 : PV) : St := [dd, dd, AV.o (AO.pv (Ty.int IntKind.i64) v0), AV.o (AO.box 23 [AO.pv Ty.str v1, AO.pv (Ty.int IntKind.i64) v2, AO.pv (Ty.int IntKind.i64) v3, AO.pv Ty.str v4, AO.pv Ty.str v5]), AV.o (AO.box 25 [AO.pv (Ty.int IntKind.i64) v6, AO.pv (Ty.int IntKind.i64) v7]), dd, dd, dd, dd, dd, dd, dd, dd, dd, dd, dd, dd, dd, dd, AV.o (AO.pv Ty.bool v8), dd, dd, dd, dd, dd, dd, dd, dd, dd, dd, dd, dd, dd, dd, dd, dd, dd, dd, dd, dd, dd, dd, dd, dd, dd, dd, dd, dd, dd, dd, dd, dd, dd, dd, dd, dd, dd, dd, dd, dd, dd, dd, dd, dd, dd, dd, dd, dd, dd, dd, dd]
noncomputable def J4_2 (G : Gate) (call : CallF) (k : Nat) (v0 v1 v2 v3 v4 v5 v6 v7 v8 : PV) : R := G 2 (regAt Tryd.prog call 4 [.b, .a, .b, .x, .a]) (SJ4_2 v0 v1 v2 v3 v4 v5 v6 v7 v8) (behind Tryd.prog H0 G call k 4 [.b, .a, .b, .x, .a] .normal)
theorem J4_5_eq (call : CallF) (k : Nat) (v0 v1 v2 v3 v4 v5 v6 : PV) : J4_5 gate1 call k v0 v1 v2 v3 v4 v5 v6 =
  some ([AO.pv Ty.bool (PV.bool false)], []) := by rw [J4_5, gate1_app]; kernel_rfl
theorem J4_10_eq (call : CallF) (k : Nat) (v0 : PV) : J4_10 gate1 call k v0 =
  some ([AO.pv Ty.bool (PV.bool false)], []) := by rw [J4_10, gate1_app]; kernel_rfl
theorem J4_11_eq (call : CallF) (k : Nat)  : J4_11 gate1 call k  =
  let c8 := call 15 []
  bif okRes Ty.bool c8 then
    some ([AO.pv Ty.bool (resPV c8)], [])
  else
    none := by rw [J4_11, gate1_app]; kernel_rfl
theorem J4_6_eq (call : CallF) (k : Nat) (v0 v1 v2 v3 v4 v5 : PV) : J4_6 gate1 call k v0 v1 v2 v3 v4 v5 =
  let c6 := call 19 [AO.pv (Ty.st 23) (PV.agg [v1, v2, v3, v4, v5]), AO.pv (Ty.int IntKind.i64) v0]
  bif !Nat.beq 2 1 && okMany (List.map (tyOf Tryd.prog) #[25, 30].toList) c6 then
    bif eqI ((resAt 1 c6).toInt) (0) then
      let c7 := call 20 [AO.pv (Ty.st 23) (PV.agg [v1, v2, v3, v4, v5]), AO.pv (Ty.st 25) (PV.agg [(resAt 0 c6).cell 0, (resAt 0 c6).cell 1])]
      bif !Nat.beq 2 1 && okMany (List.map (tyOf Tryd.prog) #[3, 30].toList) c7 then
        bif !eqI ((resAt 1 c7).toInt) (0) then
          J4_10 gate1 call k (PV.bool true)
        else
          bif !eqI ((resAt 0 c7).toInt) (v0.toInt) then
            J4_10 gate1 call k (PV.bool true)
          else
            J4_11 gate1 call k 
      else
        none
    else
      J4_11 gate1 call k 
  else
    none := by rw [J4_6, gate1_app]; kernel_rfl
theorem J4_2_eq (call : CallF) (k : Nat) (v0 v1 v2 v3 v4 v5 v6 v7 v8 : PV) : J4_2 gate1 call k v0 v1 v2 v3 v4 v5 v6 v7 v8 =
  bif ltI (IntKind.i64.wrap (v2.toInt + 1)) (0) then
    none
  else
    let c1 := call 17 [AO.pv (Ty.int IntKind.i64) (PV.int IntKind.i64 (IntKind.i64.wrap (1 * 2 ^ min (IntKind.i64.wrap (v2.toInt + 1)).toNat 64)))]
    bif okRes (Ty.st 25) c1 then
      let c2 := call 18 [AO.pv (Ty.st 25) (PV.agg [v6, v7]), AO.pv (Ty.st 25) (PV.agg [(resPV c1).cell 0, (resPV c1).cell 1])]
      bif okRes (Ty.st 25) c2 then
        bif v5.toStr.data.toList == (ByteArray.mk #[119, 114, 97, 112]).data.toList then
          bif v5.toStr.data.toList == (ByteArray.mk #[119, 114, 97, 112]).data.toList then
            bif !v4.toStr.data.toList == (ByteArray.mk #[122, 101, 114, 111]).data.toList then
              let c3 := call 7 [AO.pv (Ty.st 25) (PV.agg [(resPV c2).cell 0, (resPV c2).cell 1])]
              bif okRes Ty.bool c3 then
                bif !v4.toStr.data.toList == (ByteArray.mk #[122, 101, 114, 111]).data.toList then
                  bif (resPV c3).toBool then
                    let c4 := call 6 [AO.pv (Ty.st 23) (PV.agg [v1, v2, v3, v4, v5]), AO.pv (Ty.st 25) (PV.agg [(resPV c2).cell 0, (resPV c2).cell 1])]
                    bif okRes (Ty.st 25) c4 then
                      let c5 := call 6 [AO.pv (Ty.st 23) (PV.agg [v1, v2, v3, v4, v5]), AO.pv (Ty.st 25) (PV.agg [v6, v7])]
                      bif okRes (Ty.st 25) c5 then
                        bif (resPV c3).toBool then
                          bif !(eqI (((resPV c4).cell 0).toInt) (((resPV c5).cell 0).toInt) && eqI (((resPV c4).cell 1).toInt) (((resPV c5).cell 1).toInt)) then
                            J4_5 gate1 call k (v0) (v1) (v2) (v3) (v4) (v5) (PV.bool true)
                          else
                            J4_6 gate1 call k (v0) (v1) (v2) (v3) (v4) (v5)
                        else
                          J4_6 gate1 call k (v0) (v1) (v2) (v3) (v4) (v5)
                      else
                        none
                    else
                      none
                  else
                    bif (resPV c3).toBool then
                      none
                    else
                      J4_6 gate1 call k (v0) (v1) (v2) (v3) (v4) (v5)
                else
                  J4_6 gate1 call k (v0) (v1) (v2) (v3) (v4) (v5)
              else
                none
            else
              bif !v4.toStr.data.toList == (ByteArray.mk #[122, 101, 114, 111]).data.toList then
                none
              else
                J4_6 gate1 call k (v0) (v1) (v2) (v3) (v4) (v5)
          else
            J4_6 gate1 call k (v0) (v1) (v2) (v3) (v4) (v5)
        else
          bif v5.toStr.data.toList == (ByteArray.mk #[119, 114, 97, 112]).data.toList then
            none
          else
            J4_6 gate1 call k (v0) (v1) (v2) (v3) (v4) (v5)
      else
        none
    else
      none := by rw [J4_2, gate1_app]; kernel_rfl
theorem R4 (call : CallF) (k : Nat) (x0 x1 x2 : PV) : evStep Tryd.prog H0 call k 4 [AO.pv (Ty.st 23) x0, AO.pv (Ty.st 25) x1, AO.pv (Ty.int IntKind.i64) x2] =
  bif (x0.cell 0).toStr.data.toList == (ByteArray.mk #[102, 105, 120]).data.toList then
    let c0 := call 16 [AO.pv (Ty.st 23) (PV.agg [x0.cell 0, x0.cell 1, x0.cell 2, x0.cell 3, x0.cell 4])]
    bif okRes Ty.bool c0 then
      bif (resPV c0).toBool then
        J4_2 gate1 call k (x2) (x0.cell 0) (x0.cell 1) (x0.cell 2) (x0.cell 3) (x0.cell 4) (x1.cell 0) (x1.cell 1) (PV.bool true)
      else
        J4_11 gate1 call k 
    else
      none
  else
    J4_11 gate1 call k  := by rw [evStep_eq]; kernel_rfl
def SJ6_2 (v0 v1 v2 v3 v4 v5 v6 v7 v8 v9 : PV) : St := [dd, dd, AV.o (AO.box 23 [AO.pv Ty.str v0, AO.pv (Ty.int IntKind.i64) v1, AO.pv (Ty.int IntKind.i64) v2, AO.pv Ty.str v3, AO.pv Ty.str v4]), AV.o (AO.box 25 [AO.pv (Ty.int IntKind.i64) v5, AO.pv (Ty.int IntKind.i64) v6]), AV.o (AO.box 25 [AO.pv (Ty.int IntKind.i64) v7, AO.pv (Ty.int IntKind.i64) v8]), dd, dd, dd, dd, dd, dd, dd, AV.o (AO.pv Ty.bool v9), dd, dd, dd, dd, dd]
noncomputable def J6_2 (G : Gate) (call : CallF) (k : Nat) (v0 v1 v2 v3 v4 v5 v6 v7 v8 v9 : PV) : R := G 2 (regAt Tryd.prog call 6 [.b, .a, .b, .x, .a]) (SJ6_2 v0 v1 v2 v3 v4 v5 v6 v7 v8 v9) (behind Tryd.prog H0 G call k 6 [.b, .a, .b, .x, .a] .normal)
def SJ6_3 (v0 v1 v2 v3 v4 v5 v6 v7 v8 : PV) : St := [dd, dd, AV.o (AO.box 23 [AO.pv Ty.str v0, AO.pv (Ty.int IntKind.i64) v1, AO.pv (Ty.int IntKind.i64) v2, AO.pv Ty.str v3, AO.pv Ty.str v4]), AV.o (AO.box 25 [AO.pv (Ty.int IntKind.i64) v5, AO.pv (Ty.int IntKind.i64) v6]), AV.o (AO.box 25 [AO.pv (Ty.int IntKind.i64) v7, AO.pv (Ty.int IntKind.i64) v8]), dd, dd, dd, dd, dd, dd, dd, dd, dd, dd, dd, dd, dd]
noncomputable def J6_3 (G : Gate) (call : CallF) (k : Nat) (v0 v1 v2 v3 v4 v5 v6 v7 v8 : PV) : R := G 3 (regAt Tryd.prog call 6 [.b, .b, .a]) (SJ6_3 v0 v1 v2 v3 v4 v5 v6 v7 v8) (behind Tryd.prog H0 G call k 6 [.b, .b, .a] .normal)
theorem J6_2_eq (call : CallF) (k : Nat) (v0 v1 v2 v3 v4 v5 v6 v7 v8 v9 : PV) : J6_2 gate1 call k v0 v1 v2 v3 v4 v5 v6 v7 v8 v9 =
  some ([AO.pv (Ty.st 25) (PV.agg [PV.int IntKind.i64 0, PV.int IntKind.i64 0])], []) := by rw [J6_2, gate1_app]; kernel_rfl
theorem J6_3_eq (call : CallF) (k : Nat) (v0 v1 v2 v3 v4 v5 v6 v7 v8 : PV) : J6_3 gate1 call k v0 v1 v2 v3 v4 v5 v6 v7 v8 =
  let c2 := call 37 [AO.pv (Ty.st 25) (PV.agg [v5, v6])]
  bif okRes (Ty.st 51) c2 then
    let c3 := call 36 [AO.pv (Ty.st 23) (PV.agg [v0, v1, v2, v3, v4]), AO.pv (Ty.st 51) (resPV c2)]
    bif okRes (Ty.st 25) c3 then
      some ([AO.pv (Ty.st 25) (PV.agg [(resPV c3).cell 0, (resPV c3).cell 1])], [])
    else
      none
  else
    none := by rw [J6_3, gate1_app]; kernel_rfl
theorem R6 (call : CallF) (k : Nat) (x0 x1 : PV) : evStep Tryd.prog H0 call k 6 [AO.pv (Ty.st 23) x0, AO.pv (Ty.st 25) x1] =
  let c0 := call 16 [AO.pv (Ty.st 23) (PV.agg [x0.cell 0, x0.cell 1, x0.cell 2, x0.cell 3, x0.cell 4])]
  bif okRes Ty.bool c0 then
    bif !(resPV c0).toBool then
      J6_2 gate1 call k (x0.cell 0) (x0.cell 1) (x0.cell 2) (x0.cell 3) (x0.cell 4) (x1.cell 0) (x1.cell 1) (PV.int IntKind.i64 0) (PV.int IntKind.i64 0) (PV.bool true)
    else
      let c1 := call 35 [AO.pv (Ty.st 25) (PV.agg [x1.cell 0, x1.cell 1])]
      bif okRes Ty.bool c1 then
        bif !(resPV c1).toBool then
          J6_2 gate1 call k (x0.cell 0) (x0.cell 1) (x0.cell 2) (x0.cell 3) (x0.cell 4) (x1.cell 0) (x1.cell 1) (PV.int IntKind.i64 0) (PV.int IntKind.i64 0) (PV.bool true)
        else
          J6_3 gate1 call k (x0.cell 0) (x0.cell 1) (x0.cell 2) (x0.cell 3) (x0.cell 4) (x1.cell 0) (x1.cell 1) (PV.int IntKind.i64 0) (PV.int IntKind.i64 0)
      else
        none
  else
    none := by rw [evStep_eq]; kernel_rfl
theorem R7 (call : CallF) (k : Nat) (x0 : PV) : evStep Tryd.prog H0 call k 7 [AO.pv (Ty.st 25) x0] =
  bif leI (1) ((x0.cell 1).toInt) then
    bif leI ((x0.cell 1).toInt) (1073741824) then
      bif leI (-1073741824) ((x0.cell 0).toInt) then
        bif leI ((x0.cell 0).toInt) (1073741824) then
          let c0 := call 38 [AO.pv (Ty.int IntKind.i64) (x0.cell 0), AO.pv (Ty.int IntKind.i64) (x0.cell 1)]
          bif okRes (Ty.int IntKind.i64) c0 then
            some ([AO.pv Ty.bool (PV.bool (eqI ((resPV c0).toInt) (1)))], [])
          else
            none
        else
          some ([AO.pv Ty.bool (PV.bool false)], [])
      else
        some ([AO.pv Ty.bool (PV.bool false)], [])
    else
      some ([AO.pv Ty.bool (PV.bool false)], [])
  else
    some ([AO.pv Ty.bool (PV.bool false)], []) := by rw [evStep_eq]; kernel_rfl
theorem R8 (call : CallF) (k : Nat) (x0 x1 : PV) : evStep Tryd.prog H0 call k 8 [AO.pv (Ty.st 23) x0, AO.pv (Ty.st 25) x1] =
  let c0 := call 16 [AO.pv (Ty.st 23) (PV.agg [x0.cell 0, x0.cell 1, x0.cell 2, x0.cell 3, x0.cell 4])]
  bif okRes Ty.bool c0 then
    bif (resPV c0).toBool then
      let c1 := call 35 [AO.pv (Ty.st 25) (PV.agg [x1.cell 0, x1.cell 1])]
      bif okRes Ty.bool c1 then
        bif (resPV c0).toBool then
          bif (resPV c1).toBool then
            let c2 := call 6 [AO.pv (Ty.st 23) (PV.agg [x0.cell 0, x0.cell 1, x0.cell 2, x0.cell 3, x0.cell 4]), AO.pv (Ty.st 25) (PV.agg [x1.cell 0, x1.cell 1])]
            bif okRes (Ty.st 25) c2 then
              bif (resPV c1).toBool then
                some ([AO.pv Ty.bool (PV.bool (eqI (((resPV c2).cell 0).toInt) ((x1.cell 0).toInt) && eqI (((resPV c2).cell 1).toInt) ((x1.cell 1).toInt)))], [])
              else
                some ([AO.pv Ty.bool (PV.bool false)], [])
            else
              none
          else
            bif (resPV c1).toBool then
              none
            else
              some ([AO.pv Ty.bool (PV.bool false)], [])
        else
          some ([AO.pv Ty.bool (PV.bool false)], [])
      else
        none
    else
      bif (resPV c0).toBool then
        none
      else
        some ([AO.pv Ty.bool (PV.bool false)], [])
  else
    none := by rw [evStep_eq]; kernel_rfl
def SJ16_18  : St := [dd, dd, dd, dd, dd, dd, dd, dd, dd, dd, dd, dd, dd, dd, dd, dd, dd, dd, dd, dd, dd, dd, dd, dd, dd, dd, dd, dd, dd, dd, dd, dd, dd, dd, dd, dd, dd, dd, dd, dd, dd, dd, dd, dd, dd, dd, dd, dd, dd, dd, dd, dd, dd, dd, dd, dd, dd, dd, dd, dd, dd, dd, dd, dd, dd, dd, dd, dd, dd, dd, dd, dd, dd, dd, dd, dd, dd]
noncomputable def J16_18 (G : Gate) (call : CallF) (k : Nat)  : R := G 18 (regAt Tryd.prog call 16 [.b, .b, .b, .b, .a]) (SJ16_18 ) (behind Tryd.prog H0 G call k 16 [.b, .b, .b, .b, .a] .normal)
def SJ16_13 (v0 v1 v2 v3 v4 : PV) : St := [dd, AV.o (AO.box 23 [AO.pv Ty.str v0, AO.pv (Ty.int IntKind.i64) v1, AO.pv (Ty.int IntKind.i64) v2, AO.pv Ty.str v3, AO.pv Ty.str v4]), dd, dd, dd, dd, dd, dd, dd, dd, dd, dd, dd, dd, dd, dd, dd, dd, dd, dd, dd, dd, dd, dd, dd, dd, dd, dd, dd, dd, dd, dd, dd, dd, dd, dd, dd, dd, dd, dd, dd, dd, dd, dd, dd, dd, dd, dd, dd, dd, dd, dd, dd, dd, dd, dd, dd, dd, dd, dd, dd, dd, dd, dd, dd, dd, dd, dd, dd, dd, dd, dd, dd, dd, dd, dd, dd]
noncomputable def J16_13 (G : Gate) (call : CallF) (k : Nat) (v0 v1 v2 v3 v4 : PV) : R := G 13 (regAt Tryd.prog call 16 [.b, .b, .b, .a, .a]) (SJ16_13 v0 v1 v2 v3 v4) (behind Tryd.prog H0 G call k 16 [.b, .b, .b, .a, .a] .normal)
def SJ16_10 (v0 v1 v2 v3 v4 v5 v6 v7 v8 : PV) : St := [dd, AV.o (AO.box 23 [AO.pv Ty.str v0, AO.pv (Ty.int IntKind.i64) v1, AO.pv (Ty.int IntKind.i64) v2, AO.pv Ty.str v3, AO.pv Ty.str v4]), dd, dd, dd, dd, dd, dd, dd, AV.ptr 1 [] 4, AV.o (AO.pv Ty.str v5), AV.o (AO.pv Ty.bool v6), AV.o (AO.pv Ty.bool v7), AV.o (AO.pv Ty.bool v8), dd, dd, dd, dd, dd, dd, dd, dd, dd, dd, dd, dd, dd, dd, dd, dd, dd, dd, dd, dd, dd, dd, dd, dd, dd, dd, dd, dd, dd, dd, dd, dd, dd, dd, dd, dd, dd, dd, dd, dd, dd, dd, dd, dd, dd, dd, dd, dd, dd, dd, dd, dd, dd, dd, dd, dd, dd, dd, dd, dd, dd, dd, dd]
noncomputable def J16_10 (G : Gate) (call : CallF) (k : Nat) (v0 v1 v2 v3 v4 v5 v6 v7 v8 : PV) : R := G 10 (regAt Tryd.prog call 16 [.b, .b, .a, .b, .blk, .b, .y, .a]) (SJ16_10 v0 v1 v2 v3 v4 v5 v6 v7 v8) (behind Tryd.prog H0 G call k 16 [.b, .b, .a, .b, .blk, .b, .y, .a] .normal)
def SJ16_6 (v0 v1 v2 v3 v4 : PV) : St := [dd, AV.o (AO.box 23 [AO.pv Ty.str v0, AO.pv (Ty.int IntKind.i64) v1, AO.pv (Ty.int IntKind.i64) v2, AO.pv Ty.str v3, AO.pv Ty.str v4]), dd, dd, dd, dd, dd, dd, dd, dd, dd, dd, dd, dd, dd, dd, dd, dd, dd, dd, dd, dd, dd, dd, dd, dd, dd, dd, dd, dd, dd, dd, dd, dd, dd, dd, dd, dd, dd, dd, dd, dd, dd, dd, dd, dd, dd, dd, dd, dd, dd, dd, dd, dd, dd, dd, dd, dd, dd, dd, dd, dd, dd, dd, dd, dd, dd, dd, dd, dd, dd, dd, dd, dd, dd, dd, dd]
noncomputable def J16_6 (G : Gate) (call : CallF) (k : Nat) (v0 v1 v2 v3 v4 : PV) : R := G 6 (regAt Tryd.prog call 16 [.b, .b, .a, .a]) (SJ16_6 v0 v1 v2 v3 v4) (behind Tryd.prog H0 G call k 16 [.b, .b, .a, .a] .normal)
def SJ16_2 (v0 v1 v2 v3 v4 v5 v6 v7 v8 : PV) : St := [dd, AV.o (AO.box 23 [AO.pv Ty.str v0, AO.pv (Ty.int IntKind.i64) v1, AO.pv (Ty.int IntKind.i64) v2, AO.pv Ty.str v3, AO.pv Ty.str v4]), dd, dd, dd, AV.o (AO.pv Ty.bool v5), AV.o (AO.pv Ty.bool v6), AV.o (AO.pv Ty.bool v7), AV.o (AO.pv Ty.bool v8), dd, dd, dd, dd, dd, dd, dd, dd, dd, dd, dd, dd, dd, dd, dd, dd, dd, dd, dd, dd, dd, dd, dd, dd, dd, dd, dd, dd, dd, dd, dd, dd, dd, dd, dd, dd, dd, dd, dd, dd, dd, dd, dd, dd, dd, dd, dd, dd, dd, dd, dd, dd, dd, dd, dd, dd, dd, dd, dd, dd, dd, dd, dd, dd, dd, dd, dd, dd]
noncomputable def J16_2 (G : Gate) (call : CallF) (k : Nat) (v0 v1 v2 v3 v4 v5 v6 v7 v8 : PV) : R := G 2 (regAt Tryd.prog call 16 [.b, .a, .b, .blk, .b, .y, .a]) (SJ16_2 v0 v1 v2 v3 v4 v5 v6 v7 v8) (behind Tryd.prog H0 G call k 16 [.b, .a, .b, .blk, .b, .y, .a] .normal)
theorem J16_18_eq (call : CallF) (k : Nat)  : J16_18 gate1 call k  =
  some ([AO.pv Ty.bool (PV.bool false)], []) := by rw [J16_18, gate1_app]; kernel_rfl
theorem J16_13_eq (call : CallF) (k : Nat) (v0 v1 v2 v3 v4 : PV) : J16_13 gate1 call k v0 v1 v2 v3 v4 =
  bif v0.toStr.data.toList == (ByteArray.mk #[102, 105, 120]).data.toList then
    bif leI (0) (v1.toInt) then
      bif leI (0) (v2.toInt) then
        bif leI (v1.toInt) (30) then
          bif leI (v2.toInt) (30) then
            some ([AO.pv Ty.bool (PV.bool (leI (IntKind.i64.wrap (v1.toInt + v2.toInt)) (30)))], [])
          else
            some ([AO.pv Ty.bool (PV.bool false)], [])
        else
          some ([AO.pv Ty.bool (PV.bool false)], [])
      else
        some ([AO.pv Ty.bool (PV.bool false)], [])
    else
      some ([AO.pv Ty.bool (PV.bool false)], [])
  else
    bif v0.toStr.data.toList == (ByteArray.mk #[102, 108, 111, 97, 116]).data.toList then
      bif leI (1) (v1.toInt) then
        bif leI (v1.toInt) (24) then
          bif leI (0) (v2.toInt) then
            bif leI (v2.toInt) (20) then
              some ([AO.pv Ty.bool (PV.bool (leI (IntKind.i64.wrap (v1.toInt + v2.toInt)) (30)))], [])
            else
              some ([AO.pv Ty.bool (PV.bool false)], [])
          else
            some ([AO.pv Ty.bool (PV.bool false)], [])
        else
          some ([AO.pv Ty.bool (PV.bool false)], [])
      else
        some ([AO.pv Ty.bool (PV.bool false)], [])
    else
      J16_18 gate1 call k  := by rw [J16_13, gate1_app]; kernel_rfl
theorem J16_10_eq (call : CallF) (k : Nat) (v0 v1 v2 v3 v4 v5 v6 v7 v8 : PV) : J16_10 gate1 call k v0 v1 v2 v3 v4 v5 v6 v7 v8 =
  bif v5.toStr.data.toList == (ByteArray.mk #[119, 114, 97, 112]).data.toList then
    bif !v0.toStr.data.toList == (ByteArray.mk #[102, 105, 120]).data.toList then
      some ([AO.pv Ty.bool (PV.bool false)], [])
    else
      J16_13 gate1 call k (v0) (v1) (v2) (v3) (v4)
  else
    some ([AO.pv Ty.bool (PV.bool false)], []) := by rw [J16_10, gate1_app]; kernel_rfl
theorem J16_6_eq (call : CallF) (k : Nat) (v0 v1 v2 v3 v4 : PV) : J16_6 gate1 call k v0 v1 v2 v3 v4 =
  bif v4.toStr.data.toList == (ByteArray.mk #[115, 97, 116]).data.toList then
    J16_13 gate1 call k (v0) (v1) (v2) (v3) (v4)
  else
    bif v4.toStr.data.toList == (ByteArray.mk #[110, 111, 110, 101]).data.toList then
      J16_13 gate1 call k (v0) (v1) (v2) (v3) (v4)
    else
      J16_10 gate1 call k (v0) (v1) (v2) (v3) (v4) (v4) (PV.bool false) (PV.bool (v4.toStr.data.toList == (ByteArray.mk #[115, 97, 116]).data.toList)) (PV.bool (v4.toStr.data.toList == (ByteArray.mk #[110, 111, 110, 101]).data.toList)) := by rw [J16_6, gate1_app]; kernel_rfl
theorem J16_2_eq (call : CallF) (k : Nat) (v0 v1 v2 v3 v4 v5 v6 v7 v8 : PV) : J16_2 gate1 call k v0 v1 v2 v3 v4 v5 v6 v7 v8 =
  some ([AO.pv Ty.bool (PV.bool false)], []) := by rw [J16_2, gate1_app]; kernel_rfl
theorem R16 (call : CallF) (k : Nat) (x0 : PV) : evStep Tryd.prog H0 call k 16 [AO.pv (Ty.st 23) x0] =
  bif (x0.cell 3).toStr.data.toList == (ByteArray.mk #[102, 108, 111, 111, 114]).data.toList then
    J16_6 gate1 call k (x0.cell 0) (x0.cell 1) (x0.cell 2) (x0.cell 3) (x0.cell 4)
  else
    bif (x0.cell 3).toStr.data.toList == (ByteArray.mk #[110, 101, 97, 114]).data.toList then
      J16_6 gate1 call k (x0.cell 0) (x0.cell 1) (x0.cell 2) (x0.cell 3) (x0.cell 4)
    else
      bif (x0.cell 3).toStr.data.toList == (ByteArray.mk #[122, 101, 114, 111]).data.toList then
        J16_6 gate1 call k (x0.cell 0) (x0.cell 1) (x0.cell 2) (x0.cell 3) (x0.cell 4)
      else
        J16_2 gate1 call k (x0.cell 0) (x0.cell 1) (x0.cell 2) (x0.cell 3) (x0.cell 4) (PV.bool false) (PV.bool ((x0.cell 3).toStr.data.toList == (ByteArray.mk #[102, 108, 111, 111, 114]).data.toList)) (PV.bool ((x0.cell 3).toStr.data.toList == (ByteArray.mk #[110, 101, 97, 114]).data.toList)) (PV.bool ((x0.cell 3).toStr.data.toList == (ByteArray.mk #[122, 101, 114, 111]).data.toList)) := by rw [evStep_eq]; kernel_rfl
theorem R17 (call : CallF) (k : Nat) (x0 : PV) : evStep Tryd.prog H0 call k 17 [AO.pv (Ty.int IntKind.i64) x0] =
  let c0 := call 46 [AO.pv (Ty.int IntKind.i64) x0, AO.pv (Ty.int IntKind.i64) (PV.int IntKind.i64 1)]
  bif okRes (Ty.st 25) c0 then
    some ([AO.pv (Ty.st 25) (PV.agg [(resPV c0).cell 0, (resPV c0).cell 1])], [])
  else
    none := by rw [evStep_eq]; kernel_rfl
def SJ18_3 (v0 v1 v2 v3 v4 v5 : PV) : St := [dd, dd, AV.o (AO.box 25 [AO.pv (Ty.int IntKind.i64) v0, AO.pv (Ty.int IntKind.i64) v1]), AV.o (AO.box 25 [AO.pv (Ty.int IntKind.i64) v2, AO.pv (Ty.int IntKind.i64) v3]), AV.o (AO.box 25 [AO.pv (Ty.int IntKind.i64) v4, AO.pv (Ty.int IntKind.i64) v5]), dd, dd, dd, dd, dd, dd, dd, dd, dd, dd, dd, dd, dd, dd, dd, dd, dd, dd, dd, dd, dd, dd]
noncomputable def J18_3 (G : Gate) (call : CallF) (k : Nat) (v0 v1 v2 v3 v4 v5 : PV) : R := G 3 (regAt Tryd.prog call 18 [.b, .b, .a]) (SJ18_3 v0 v1 v2 v3 v4 v5) (behind Tryd.prog H0 G call k 18 [.b, .b, .a] .normal)
theorem J18_3_eq (call : CallF) (k : Nat) (v0 v1 v2 v3 v4 v5 : PV) : J18_3 gate1 call k v0 v1 v2 v3 v4 v5 =
  let c2 := call 46 [AO.pv (Ty.int IntKind.i64) (PV.int IntKind.i64 (IntKind.i64.wrap (IntKind.i64.wrap (v0.toInt * v3.toInt) + IntKind.i64.wrap (v2.toInt * v1.toInt)))), AO.pv (Ty.int IntKind.i64) (PV.int IntKind.i64 (IntKind.i64.wrap (v1.toInt * v3.toInt)))]
  bif okRes (Ty.st 25) c2 then
    some ([AO.pv (Ty.st 25) (PV.agg [(resPV c2).cell 0, (resPV c2).cell 1])], [])
  else
    none := by rw [J18_3, gate1_app]; kernel_rfl
theorem R18 (call : CallF) (k : Nat) (x0 x1 : PV) : evStep Tryd.prog H0 call k 18 [AO.pv (Ty.st 25) x0, AO.pv (Ty.st 25) x1] =
  let c0 := call 47 [AO.pv (Ty.st 25) (PV.agg [x0.cell 0, x0.cell 1]), AO.pv (Ty.st 25) (PV.agg [x1.cell 0, x1.cell 1])]
  bif okRes Ty.bool c0 then
    bif !(resPV c0).toBool then
      let c1 := call 48 []
      bif okRes (Ty.st 25) c1 then
        some ([AO.pv (Ty.st 25) (PV.agg [(resPV c1).cell 0, (resPV c1).cell 1])], [])
      else
        none
    else
      J18_3 gate1 call k (x0.cell 0) (x0.cell 1) (x1.cell 0) (x1.cell 1) (PV.int IntKind.i64 0) (PV.int IntKind.i64 0)
  else
    none := by rw [evStep_eq]; kernel_rfl
def SJ19_2 (v0 v1 v2 v3 v4 v5 v6 v7 v8 : PV) : St := [dd, AV.o (AO.pv (Ty.int IntKind.i64) v0), AV.o (AO.box 23 [AO.pv Ty.str v1, AO.pv (Ty.int IntKind.i64) v2, AO.pv (Ty.int IntKind.i64) v3, AO.pv Ty.str v4, AO.pv Ty.str v5]), dd, AV.o (AO.box 25 [AO.pv (Ty.int IntKind.i64) v6, AO.pv (Ty.int IntKind.i64) v7]), dd, dd, dd, dd, dd, dd, dd, dd, dd, dd, dd, dd, dd, dd, dd, dd, dd, dd, dd, dd, dd, dd, dd, dd, AV.o (AO.pv Ty.bool v8), dd, dd, dd, dd, dd, dd, dd, dd, dd, dd, dd, dd, dd, dd, dd, dd, dd, dd, dd, dd, dd, dd, dd]
noncomputable def J19_2 (G : Gate) (call : CallF) (k : Nat) (v0 v1 v2 v3 v4 v5 v6 v7 v8 : PV) : R := G 2 (regAt Tryd.prog call 19 [.b, .a, .b, .x, .a]) (SJ19_2 v0 v1 v2 v3 v4 v5 v6 v7 v8) (behind Tryd.prog H0 G call k 19 [.b, .a, .b, .x, .a] .normal)
def SJ19_6 (v0 v1 v2 v3 v4 v5 v6 v7 v8 v9 v10 : PV) : St := [dd, AV.o (AO.pv (Ty.int IntKind.i64) v0), AV.o (AO.box 23 [AO.pv Ty.str v1, AO.pv (Ty.int IntKind.i64) v2, AO.pv (Ty.int IntKind.i64) v3, AO.pv Ty.str v4, AO.pv Ty.str v5]), dd, AV.o (AO.box 25 [AO.pv (Ty.int IntKind.i64) v6, AO.pv (Ty.int IntKind.i64) v7]), dd, AV.o (AO.pv (Ty.int IntKind.i64) v8), dd, dd, dd, dd, dd, dd, dd, dd, dd, dd, dd, dd, dd, dd, dd, dd, dd, dd, dd, dd, dd, dd, dd, dd, AV.o (AO.pv (Ty.int IntKind.i64) v9), dd, dd, dd, dd, dd, dd, dd, dd, dd, dd, dd, dd, dd, dd, dd, dd, dd, AV.o (AO.pv (Ty.int IntKind.i64) v10), dd, dd, dd]
noncomputable def J19_6 (G : Gate) (call : CallF) (k : Nat) (v0 v1 v2 v3 v4 v5 v6 v7 v8 v9 v10 : PV) : R := G 6 (regAt Tryd.prog call 19 [.b, .b, .b, .b, .a]) (SJ19_6 v0 v1 v2 v3 v4 v5 v6 v7 v8 v9 v10) (behind Tryd.prog H0 G call k 19 [.b, .b, .b, .b, .a] .normal)
def SJ19_6s1 (v0 v1 v2 v3 v4 v5 v6 v7 v8 v9 : PV) : St := [dd, AV.o (AO.pv (Ty.int IntKind.i64) v0), AV.o (AO.box 23 [AO.pv Ty.str v1, AO.pv (Ty.int IntKind.i64) v2, AO.pv (Ty.int IntKind.i64) v3, AO.pv Ty.str v4, AO.pv Ty.str v5]), dd, AV.o (AO.box 25 [AO.pv (Ty.int IntKind.i64) v6, AO.pv (Ty.int IntKind.i64) v7]), dd, AV.o (AO.pv (Ty.int IntKind.i64) v8), dd, dd, dd, dd, dd, dd, dd, dd, dd, dd, dd, dd, dd, dd, dd, dd, dd, dd, dd, dd, dd, dd, dd, dd, AV.o (AO.pv (Ty.int IntKind.i64) v9), dd, dd, dd, dd, dd, dd, dd, dd, dd, dd, dd, dd, dd, dd, dd, dd, dd, dd, dd, dd, dd]
noncomputable def J19_6s1 (G : Gate) (call : CallF) (k : Nat) (v0 v1 v2 v3 v4 v5 v6 v7 v8 v9 : PV) : R := G 6 (regAt Tryd.prog call 19 [.b, .b, .b, .b, .a]) (SJ19_6s1 v0 v1 v2 v3 v4 v5 v6 v7 v8 v9) (behind Tryd.prog H0 G call k 19 [.b, .b, .b, .b, .a] .normal)
def SJ19_3 (v0 v1 v2 v3 v4 v5 v6 v7 : PV) : St := [dd, AV.o (AO.pv (Ty.int IntKind.i64) v0), AV.o (AO.box 23 [AO.pv Ty.str v1, AO.pv (Ty.int IntKind.i64) v2, AO.pv (Ty.int IntKind.i64) v3, AO.pv Ty.str v4, AO.pv Ty.str v5]), dd, AV.o (AO.box 25 [AO.pv (Ty.int IntKind.i64) v6, AO.pv (Ty.int IntKind.i64) v7]), dd, dd, dd, dd, dd, dd, dd, dd, dd, dd, dd, dd, dd, dd, dd, dd, dd, dd, dd, dd, dd, dd, dd, dd, dd, dd, dd, dd, dd, dd, dd, dd, dd, dd, dd, dd, dd, dd, dd, dd, dd, dd, dd, dd, dd, dd, dd, dd]
noncomputable def J19_3 (G : Gate) (call : CallF) (k : Nat) (v0 v1 v2 v3 v4 v5 v6 v7 : PV) : R := G 3 (regAt Tryd.prog call 19 [.b, .b, .a]) (SJ19_3 v0 v1 v2 v3 v4 v5 v6 v7) (behind Tryd.prog H0 G call k 19 [.b, .b, .a] .normal)
theorem J19_2_eq (call : CallF) (k : Nat) (v0 v1 v2 v3 v4 v5 v6 v7 v8 : PV) : J19_2 gate1 call k v0 v1 v2 v3 v4 v5 v6 v7 v8 =
  some ([AO.pv (Ty.st 25) (PV.agg [PV.int IntKind.i64 0, PV.int IntKind.i64 0]), AO.pv (Ty.int IntKind.i64) (PV.int IntKind.i64 2)], []) := by rw [J19_2, gate1_app]; kernel_rfl
theorem J19_6_eq (call : CallF) (k : Nat) (v0 v1 v2 v3 v4 v5 v6 v7 v8 v9 v10 : PV) : J19_6 gate1 call k v0 v1 v2 v3 v4 v5 v6 v7 v8 v9 v10 =
  let c1 := call 40 [AO.pv (Ty.st 23) (PV.agg [v1, v2, v3, v4, v5]), AO.pv (Ty.int IntKind.i64) v8]
  bif okRes (Ty.st 25) c1 then
    some ([AO.pv (Ty.st 25) (PV.agg [(resPV c1).cell 0, (resPV c1).cell 1]), AO.pv (Ty.int IntKind.i64) (PV.int IntKind.i64 0)], [])
  else
    none := by rw [J19_6, gate1_app]; kernel_rfl
theorem J19_6s1_eq (call : CallF) (k : Nat) (v0 v1 v2 v3 v4 v5 v6 v7 v8 v9 : PV) : J19_6s1 gate1 call k v0 v1 v2 v3 v4 v5 v6 v7 v8 v9 =
  let c2 := call 40 [AO.pv (Ty.st 23) (PV.agg [v1, v2, v3, v4, v5]), AO.pv (Ty.int IntKind.i64) v8]
  bif okRes (Ty.st 25) c2 then
    some ([AO.pv (Ty.st 25) (PV.agg [(resPV c2).cell 0, (resPV c2).cell 1]), AO.pv (Ty.int IntKind.i64) (PV.int IntKind.i64 0)], [])
  else
    none := by rw [J19_6s1, gate1_app]; kernel_rfl
theorem J19_3_eq (call : CallF) (k : Nat) (v0 v1 v2 v3 v4 v5 v6 v7 : PV) : J19_3 gate1 call k v0 v1 v2 v3 v4 v5 v6 v7 =
  bif ltI (IntKind.u64.wrap (IntKind.i64.wrap (v2.toInt + v3.toInt))) (0) then
    none
  else
    bif leI (IntKind.i64.wrap (1 * 2 ^ min (IntKind.u64.wrap (IntKind.i64.wrap (v2.toInt + v3.toInt))).toNat 64)) (v0.toInt) then
      bif ltI (IntKind.u64.wrap (IntKind.i64.wrap (v2.toInt + v3.toInt))) (0) then
        none
      else
        J19_6 gate1 call k (v0) (v1) (v2) (v3) (v4) (v5) (v6) (v7) (PV.int IntKind.i64 (IntKind.i64.wrap (v0.toInt - IntKind.i64.wrap (2 * 2 ^ min (IntKind.u64.wrap (IntKind.i64.wrap (v2.toInt + v3.toInt))).toNat 64)))) (v0) (PV.int IntKind.i64 (IntKind.i64.wrap (v0.toInt - IntKind.i64.wrap (2 * 2 ^ min (IntKind.u64.wrap (IntKind.i64.wrap (v2.toInt + v3.toInt))).toNat 64))))
    else
      J19_6s1 gate1 call k (v0) (v1) (v2) (v3) (v4) (v5) (v6) (v7) (v0) (v0) := by rw [J19_3, gate1_app]; kernel_rfl
theorem R19 (call : CallF) (k : Nat) (x0 x1 : PV) : evStep Tryd.prog H0 call k 19 [AO.pv (Ty.st 23) x0, AO.pv (Ty.int IntKind.i64) x1] =
  let c0 := call 16 [AO.pv (Ty.st 23) (PV.agg [x0.cell 0, x0.cell 1, x0.cell 2, x0.cell 3, x0.cell 4])]
  bif okRes Ty.bool c0 then
    bif !(resPV c0).toBool then
      J19_2 gate1 call k (x1) (x0.cell 0) (x0.cell 1) (x0.cell 2) (x0.cell 3) (x0.cell 4) (PV.int IntKind.i64 0) (PV.int IntKind.i64 0) (PV.bool true)
    else
      bif !(x0.cell 0).toStr.data.toList == (ByteArray.mk #[102, 105, 120]).data.toList then
        J19_2 gate1 call k (x1) (x0.cell 0) (x0.cell 1) (x0.cell 2) (x0.cell 3) (x0.cell 4) (PV.int IntKind.i64 0) (PV.int IntKind.i64 0) (PV.bool true)
      else
        bif ltI (x1.toInt) (0) then
          J19_2 gate1 call k (x1) (x0.cell 0) (x0.cell 1) (x0.cell 2) (x0.cell 3) (x0.cell 4) (PV.int IntKind.i64 0) (PV.int IntKind.i64 0) (PV.bool true)
        else
          bif ltI (IntKind.u64.wrap (IntKind.i64.wrap ((x0.cell 1).toInt + (x0.cell 2).toInt))) (0) then
            none
          else
            bif leI (IntKind.i64.wrap (2 * 2 ^ min (IntKind.u64.wrap (IntKind.i64.wrap ((x0.cell 1).toInt + (x0.cell 2).toInt))).toNat 64)) (x1.toInt) then
              J19_2 gate1 call k (x1) (x0.cell 0) (x0.cell 1) (x0.cell 2) (x0.cell 3) (x0.cell 4) (PV.int IntKind.i64 0) (PV.int IntKind.i64 0) (PV.bool true)
            else
              J19_3 gate1 call k (x1) (x0.cell 0) (x0.cell 1) (x0.cell 2) (x0.cell 3) (x0.cell 4) (PV.int IntKind.i64 0) (PV.int IntKind.i64 0)
  else
    none := by rw [evStep_eq]; kernel_rfl
def SJ20_2 (v0 v1 v2 v3 v4 v5 v6 v7 v8 : PV) : St := [dd, dd, AV.o (AO.box 23 [AO.pv Ty.str v0, AO.pv (Ty.int IntKind.i64) v1, AO.pv (Ty.int IntKind.i64) v2, AO.pv Ty.str v3, AO.pv Ty.str v4]), AV.o (AO.box 25 [AO.pv (Ty.int IntKind.i64) v5, AO.pv (Ty.int IntKind.i64) v6]), dd, dd, dd, AV.o (AO.pv Ty.bool v7), dd, dd, dd, dd, dd, dd, dd, AV.o (AO.pv Ty.bool v8), dd, dd, dd, dd, dd, dd, dd, dd, dd, dd, dd, dd, dd, dd, dd, dd, dd, dd, dd, dd, dd, dd, dd, dd, dd, dd, dd]
noncomputable def J20_2 (G : Gate) (call : CallF) (k : Nat) (v0 v1 v2 v3 v4 v5 v6 v7 v8 : PV) : R := G 2 (regAt Tryd.prog call 20 [.b, .a, .blk, .b, .x, .a]) (SJ20_2 v0 v1 v2 v3 v4 v5 v6 v7 v8) (behind Tryd.prog H0 G call k 20 [.b, .a, .blk, .b, .x, .a] .normal)
def SJ20_8 (v0 v1 v2 : PV) : St := [dd, dd, dd, dd, dd, dd, AV.o (AO.pv (Ty.int IntKind.i64) v0), dd, dd, dd, dd, dd, dd, dd, dd, dd, dd, dd, dd, dd, dd, dd, dd, dd, dd, dd, dd, dd, dd, dd, AV.o (AO.pv (Ty.int IntKind.i64) v1), dd, dd, dd, dd, dd, dd, dd, dd, dd, dd, AV.o (AO.pv (Ty.int IntKind.i64) v2), dd]
noncomputable def J20_8 (G : Gate) (call : CallF) (k : Nat) (v0 v1 v2 : PV) : R := G 8 (regAt Tryd.prog call 20 [.b, .b, .b, .b, .a]) (SJ20_8 v0 v1 v2) (behind Tryd.prog H0 G call k 20 [.b, .b, .b, .b, .a] .normal)
def SJ20_8s1 (v0 v1 : PV) : St := [dd, dd, dd, dd, dd, dd, AV.o (AO.pv (Ty.int IntKind.i64) v0), dd, dd, dd, dd, dd, dd, dd, dd, dd, dd, dd, dd, dd, dd, dd, dd, dd, dd, dd, dd, dd, dd, dd, AV.o (AO.pv (Ty.int IntKind.i64) v1), dd, dd, dd, dd, dd, dd, dd, dd, dd, dd, dd, dd]
noncomputable def J20_8s1 (G : Gate) (call : CallF) (k : Nat) (v0 v1 : PV) : R := G 8 (regAt Tryd.prog call 20 [.b, .b, .b, .b, .a]) (SJ20_8s1 v0 v1) (behind Tryd.prog H0 G call k 20 [.b, .b, .b, .b, .a] .normal)
def SJ20_5 (v0 v1 v2 v3 v4 v5 v6 : PV) : St := [dd, dd, AV.o (AO.box 23 [AO.pv Ty.str v0, AO.pv (Ty.int IntKind.i64) v1, AO.pv (Ty.int IntKind.i64) v2, AO.pv Ty.str v3, AO.pv Ty.str v4]), AV.o (AO.box 25 [AO.pv (Ty.int IntKind.i64) v5, AO.pv (Ty.int IntKind.i64) v6]), dd, dd, dd, dd, dd, dd, dd, dd, dd, dd, dd, dd, dd, dd, dd, dd, dd, dd, dd, dd, dd, dd, dd, dd, dd, dd, dd, dd, dd, dd, dd, dd, dd, dd, dd, dd, dd, dd, dd]
noncomputable def J20_5 (G : Gate) (call : CallF) (k : Nat) (v0 v1 v2 v3 v4 v5 v6 : PV) : R := G 5 (regAt Tryd.prog call 20 [.b, .b, .a]) (SJ20_5 v0 v1 v2 v3 v4 v5 v6) (behind Tryd.prog H0 G call k 20 [.b, .b, .a] .normal)
theorem J20_2_eq (call : CallF) (k : Nat) (v0 v1 v2 v3 v4 v5 v6 v7 v8 : PV) : J20_2 gate1 call k v0 v1 v2 v3 v4 v5 v6 v7 v8 =
  some ([AO.pv (Ty.int IntKind.i64) (PV.int IntKind.i64 0), AO.pv (Ty.int IntKind.i64) (PV.int IntKind.i64 2)], []) := by rw [J20_2, gate1_app]; kernel_rfl
theorem J20_8_eq (call : CallF) (k : Nat) (v0 v1 v2 : PV) : J20_8 gate1 call k v0 v1 v2 =
  some ([AO.pv (Ty.int IntKind.i64) v0, AO.pv (Ty.int IntKind.i64) (PV.int IntKind.i64 0)], []) := by rw [J20_8, gate1_app]; kernel_rfl
theorem J20_8s1_eq (call : CallF) (k : Nat) (v0 v1 : PV) : J20_8s1 gate1 call k v0 v1 =
  some ([AO.pv (Ty.int IntKind.i64) v0, AO.pv (Ty.int IntKind.i64) (PV.int IntKind.i64 0)], []) := by rw [J20_8s1, gate1_app]; kernel_rfl
theorem J20_5_eq (call : CallF) (k : Nat) (v0 v1 v2 v3 v4 v5 v6 : PV) : J20_5 gate1 call k v0 v1 v2 v3 v4 v5 v6 =
  bif ltI (IntKind.u64.wrap v2.toInt) (0) then
    none
  else
    bif eqI (v6.toInt) (0) then
      none
    else
      bif ltI (IntKind.i64.wrap ((IntKind.i64.wrap (v5.toInt * IntKind.i64.wrap (1 * 2 ^ min (IntKind.u64.wrap v2.toInt).toNat 64))).tdiv v6.toInt)) (0) then
        bif ltI (IntKind.u64.wrap (IntKind.i64.wrap (v1.toInt + v2.toInt))) (0) then
          none
        else
          J20_8 gate1 call k (PV.int IntKind.i64 (IntKind.i64.wrap (IntKind.i64.wrap ((IntKind.i64.wrap (v5.toInt * IntKind.i64.wrap (1 * 2 ^ min (IntKind.u64.wrap v2.toInt).toNat 64))).tdiv v6.toInt) + IntKind.i64.wrap (2 * 2 ^ min (IntKind.u64.wrap (IntKind.i64.wrap (v1.toInt + v2.toInt))).toNat 64)))) (PV.int IntKind.i64 (IntKind.i64.wrap ((IntKind.i64.wrap (v5.toInt * IntKind.i64.wrap (1 * 2 ^ min (IntKind.u64.wrap v2.toInt).toNat 64))).tdiv v6.toInt))) (PV.int IntKind.i64 (IntKind.i64.wrap (IntKind.i64.wrap ((IntKind.i64.wrap (v5.toInt * IntKind.i64.wrap (1 * 2 ^ min (IntKind.u64.wrap v2.toInt).toNat 64))).tdiv v6.toInt) + IntKind.i64.wrap (2 * 2 ^ min (IntKind.u64.wrap (IntKind.i64.wrap (v1.toInt + v2.toInt))).toNat 64))))
      else
        J20_8s1 gate1 call k (PV.int IntKind.i64 (IntKind.i64.wrap ((IntKind.i64.wrap (v5.toInt * IntKind.i64.wrap (1 * 2 ^ min (IntKind.u64.wrap v2.toInt).toNat 64))).tdiv v6.toInt))) (PV.int IntKind.i64 (IntKind.i64.wrap ((IntKind.i64.wrap (v5.toInt * IntKind.i64.wrap (1 * 2 ^ min (IntKind.u64.wrap v2.toInt).toNat 64))).tdiv v6.toInt))) := by rw [J20_5, gate1_app]; kernel_rfl
theorem R20 (call : CallF) (k : Nat) (x0 x1 : PV) : evStep Tryd.prog H0 call k 20 [AO.pv (Ty.st 23) x0, AO.pv (Ty.st 25) x1] =
  let c0 := call 16 [AO.pv (Ty.st 23) (PV.agg [x0.cell 0, x0.cell 1, x0.cell 2, x0.cell 3, x0.cell 4])]
  bif okRes Ty.bool c0 then
    bif !(resPV c0).toBool then
      J20_2 gate1 call k (x0.cell 0) (x0.cell 1) (x0.cell 2) (x0.cell 3) (x0.cell 4) (x1.cell 0) (x1.cell 1) (PV.bool true) (PV.bool true)
    else
      bif !(x0.cell 0).toStr.data.toList == (ByteArray.mk #[102, 105, 120]).data.toList then
        J20_2 gate1 call k (x0.cell 0) (x0.cell 1) (x0.cell 2) (x0.cell 3) (x0.cell 4) (x1.cell 0) (x1.cell 1) (PV.bool true) (PV.bool !(x0.cell 0).toStr.data.toList == (ByteArray.mk #[102, 105, 120]).data.toList)
      else
        let c1 := call 8 [AO.pv (Ty.st 23) (PV.agg [x0.cell 0, x0.cell 1, x0.cell 2, x0.cell 3, x0.cell 4]), AO.pv (Ty.st 25) (PV.agg [x1.cell 0, x1.cell 1])]
        bif okRes Ty.bool c1 then
          bif !(resPV c1).toBool then
            some ([AO.pv (Ty.int IntKind.i64) (PV.int IntKind.i64 0), AO.pv (Ty.int IntKind.i64) (PV.int IntKind.i64 5)], [])
          else
            J20_5 gate1 call k (x0.cell 0) (x0.cell 1) (x0.cell 2) (x0.cell 3) (x0.cell 4) (x1.cell 0) (x1.cell 1)
        else
          none
  else
    none := by rw [evStep_eq]; kernel_rfl
theorem R35 (call : CallF) (k : Nat) (x0 : PV) : evStep Tryd.prog H0 call k 35 [AO.pv (Ty.st 25) x0] =
  bif leI (1) ((x0.cell 1).toInt) then
    bif leI (1) ((x0.cell 1).toInt) then
      bif leI ((x0.cell 1).toInt) (1073741824) then
        bif leI ((x0.cell 1).toInt) (1073741824) then
          bif leI (-1073741824) ((x0.cell 0).toInt) then
            bif leI (-1073741824) ((x0.cell 0).toInt) then
              bif leI ((x0.cell 0).toInt) (1073741824) then
                let c0 := call 56 [AO.pv (Ty.int IntKind.i64) (x0.cell 0)]
                bif okRes (Ty.int IntKind.u64) c0 then
                  let c1 := call 56 [AO.pv (Ty.int IntKind.i64) (x0.cell 1)]
                  bif okRes (Ty.int IntKind.u64) c1 then
                    let c2 := call 55 [AO.pv (Ty.int IntKind.u64) (resPV c0), AO.pv (Ty.int IntKind.u64) (resPV c1)]
                    bif okRes (Ty.int IntKind.u64) c2 then
                      bif leI ((x0.cell 0).toInt) (1073741824) then
                        some ([AO.pv Ty.bool (PV.bool (eqI ((resPV c2).toInt) (1)))], [])
                      else
                        some ([AO.pv Ty.bool (PV.bool false)], [])
                    else
                      none
                  else
                    none
                else
                  none
              else
                bif leI ((x0.cell 0).toInt) (1073741824) then
                  none
                else
                  some ([AO.pv Ty.bool (PV.bool false)], [])
            else
              some ([AO.pv Ty.bool (PV.bool false)], [])
          else
            bif leI (-1073741824) ((x0.cell 0).toInt) then
              none
            else
              some ([AO.pv Ty.bool (PV.bool false)], [])
        else
          some ([AO.pv Ty.bool (PV.bool false)], [])
      else
        bif leI ((x0.cell 1).toInt) (1073741824) then
          none
        else
          some ([AO.pv Ty.bool (PV.bool false)], [])
    else
      some ([AO.pv Ty.bool (PV.bool false)], [])
  else
    bif leI (1) ((x0.cell 1).toInt) then
      none
    else
      some ([AO.pv Ty.bool (PV.bool false)], []) := by rw [evStep_eq]; kernel_rfl
def SJ36_3 (v0 v1 v2 v3 v4 v5 v6 v7 v8 v9 : PV) : St := [dd, dd, AV.o (AO.box 23 [AO.pv Ty.str v0, AO.pv (Ty.int IntKind.i64) v1, AO.pv (Ty.int IntKind.i64) v2, AO.pv Ty.str v3, AO.pv Ty.str v4]), AV.o (AO.box 51 [AO.pv Ty.bool v5, AO.pv (Ty.int IntKind.u64) v6, AO.pv (Ty.int IntKind.u64) v7]), AV.o (AO.box 25 [AO.pv (Ty.int IntKind.i64) v8, AO.pv (Ty.int IntKind.i64) v9]), dd, dd, dd, dd, dd, dd, dd, dd, dd]
noncomputable def J36_3 (G : Gate) (call : CallF) (k : Nat) (v0 v1 v2 v3 v4 v5 v6 v7 v8 v9 : PV) : R := G 3 (regAt Tryd.prog call 36 [.b, .b, .a]) (SJ36_3 v0 v1 v2 v3 v4 v5 v6 v7 v8 v9) (behind Tryd.prog H0 G call k 36 [.b, .b, .a] .normal)
theorem J36_3_eq (call : CallF) (k : Nat) (v0 v1 v2 v3 v4 v5 v6 v7 v8 v9 : PV) : J36_3 gate1 call k v0 v1 v2 v3 v4 v5 v6 v7 v8 v9 =
  let c1 := call 58 [AO.pv (Ty.st 23) (PV.agg [v0, v1, v2, v3, v4]), AO.pv (Ty.st 51) (PV.agg [v5, v6, v7])]
  bif okRes (Ty.st 25) c1 then
    some ([AO.pv (Ty.st 25) (PV.agg [(resPV c1).cell 0, (resPV c1).cell 1])], [])
  else
    none := by rw [J36_3, gate1_app]; kernel_rfl
theorem R36 (call : CallF) (k : Nat) (x0 x1 : PV) : evStep Tryd.prog H0 call k 36 [AO.pv (Ty.st 23) x0, AO.pv (Ty.st 51) x1] =
  bif (x0.cell 0).toStr.data.toList == (ByteArray.mk #[102, 105, 120]).data.toList then
    let c0 := call 57 [AO.pv (Ty.st 23) (PV.agg [x0.cell 0, x0.cell 1, x0.cell 2, x0.cell 3, x0.cell 4]), AO.pv (Ty.st 51) (PV.agg [x1.cell 0, x1.cell 1, x1.cell 2])]
    bif okRes (Ty.st 25) c0 then
      some ([AO.pv (Ty.st 25) (PV.agg [(resPV c0).cell 0, (resPV c0).cell 1])], [])
    else
      none
  else
    J36_3 gate1 call k (x0.cell 0) (x0.cell 1) (x0.cell 2) (x0.cell 3) (x0.cell 4) (x1.cell 0) (x1.cell 1) (x1.cell 2) (PV.int IntKind.i64 0) (PV.int IntKind.i64 0) := by rw [evStep_eq]; kernel_rfl
def SJ37_3 (v0 v1 v2 v3 v4 : PV) : St := [dd, AV.o (AO.box 25 [AO.pv (Ty.int IntKind.i64) v0, AO.pv (Ty.int IntKind.i64) v1]), AV.o (AO.box 51 [AO.pv Ty.bool v2, AO.pv (Ty.int IntKind.u64) v3, AO.pv (Ty.int IntKind.u64) v4]), dd, dd, dd, dd, dd, dd, dd, dd, dd, dd, dd, dd, dd, dd, dd, dd, dd, dd]
noncomputable def J37_3 (G : Gate) (call : CallF) (k : Nat) (v0 v1 v2 v3 v4 : PV) : R := G 3 (regAt Tryd.prog call 37 [.b, .b, .a]) (SJ37_3 v0 v1 v2 v3 v4) (behind Tryd.prog H0 G call k 37 [.b, .b, .a] .normal)
theorem J37_3_eq (call : CallF) (k : Nat) (v0 v1 v2 v3 v4 : PV) : J37_3 gate1 call k v0 v1 v2 v3 v4 =
  some ([AO.pv (Ty.st 51) (PV.agg [PV.bool false, PV.int IntKind.u64 (IntKind.u64.wrap v0.toInt), PV.int IntKind.u64 (IntKind.u64.wrap v1.toInt)])], []) := by rw [J37_3, gate1_app]; kernel_rfl
theorem R37 (call : CallF) (k : Nat) (x0 : PV) : evStep Tryd.prog H0 call k 37 [AO.pv (Ty.st 25) x0] =
  bif ltI ((x0.cell 0).toInt) (0) then
    some ([AO.pv (Ty.st 51) (PV.agg [PV.bool true, PV.int IntKind.u64 (IntKind.u64.wrap (IntKind.i64.wrap (0 - (x0.cell 0).toInt))), PV.int IntKind.u64 (IntKind.u64.wrap (x0.cell 1).toInt)])], [])
  else
    J37_3 gate1 call k (x0.cell 0) (x0.cell 1) (PV.bool false) (PV.int IntKind.u64 0) (PV.int IntKind.u64 0) := by rw [evStep_eq]; kernel_rfl
def SJ38_6 (v0 v1 : PV) : St := [AV.o (AO.pv (Ty.int IntKind.i64) v0), AV.o (AO.pv (Ty.int IntKind.i64) v1), dd, dd, dd, dd, dd, dd, dd, dd, dd, dd, dd, dd, dd, dd, dd, dd, dd, dd, dd, dd]
noncomputable def J38_6 (G : Gate) (call : CallF) (k n : Nat) (v0 v1 : PV) : R := G 6 (regAt Tryd.prog call 38 [.b, .b, .b, .a, .blk, .lp n, .b, .blk, .a]) (SJ38_6 v0 v1) (behind Tryd.prog H0 G call k 38 [.b, .b, .b, .a, .blk, .lp n, .b, .blk, .a] .normal)
def SJ38_9 (v0 v1 : PV) : St := [AV.o (AO.pv (Ty.int IntKind.i64) v0), AV.o (AO.pv (Ty.int IntKind.i64) v1), dd, dd, dd, dd, dd, dd, dd, dd, dd, dd, dd, dd, dd, dd, dd, dd, dd, dd, dd, dd]
noncomputable def J38_9 (G : Gate) (call : CallF) (k : Nat) (v0 v1 : PV) : R := G 9 (regAt Tryd.prog call 38 [.b, .b, .b, .b, .a]) (SJ38_9 v0 v1) (behind Tryd.prog H0 G call k 38 [.b, .b, .b, .b, .a] .normal)
def S38_5 (v0 v1 : PV) : St := [AV.o (AO.pv (Ty.int IntKind.i64) v0), AV.o (AO.pv (Ty.int IntKind.i64) v1), dd, dd, dd, dd, dd, dd, dd, dd, dd, dd, dd, dd, dd, dd, dd, dd, dd, dd, dd, dd]
noncomputable def L38_5 (G : Gate) (call : CallF) (k n : Nat) (v0 v1 : PV) : R := loopAt Tryd.prog H0 G call k 38 [.b, .b, .b, .a, .blk] n (S38_5 v0 v1) (behind Tryd.prog H0 G call k 38 [.b, .b, .b, .a, .blk])
def SJ38_3 (v0 v1 v2 : PV) : St := [AV.o (AO.pv (Ty.int IntKind.i64) v0), AV.o (AO.pv (Ty.int IntKind.i64) v1), dd, dd, dd, dd, dd, dd, dd, AV.o (AO.pv (Ty.int IntKind.i64) v2), dd, dd, dd, dd, dd, dd, dd, dd, dd, dd, dd, dd]
noncomputable def J38_3 (G : Gate) (call : CallF) (k : Nat) (v0 v1 v2 : PV) : R := G 3 (regAt Tryd.prog call 38 [.b, .b, .a, .a]) (SJ38_3 v0 v1 v2) (behind Tryd.prog H0 G call k 38 [.b, .b, .a, .a] .normal)
def SJ38_3s1 (v0 v1 : PV) : St := [AV.o (AO.pv (Ty.int IntKind.i64) v0), AV.o (AO.pv (Ty.int IntKind.i64) v1), dd, dd, dd, dd, dd, dd, dd, dd, dd, dd, dd, dd, dd, dd, dd, dd, dd, dd, dd, dd]
noncomputable def J38_3s1 (G : Gate) (call : CallF) (k : Nat) (v0 v1 : PV) : R := G 3 (regAt Tryd.prog call 38 [.b, .b, .a, .a]) (SJ38_3s1 v0 v1) (behind Tryd.prog H0 G call k 38 [.b, .b, .a, .a] .normal)
theorem J38_6_eq (call : CallF) (k n : Nat) (v0 v1 : PV) : J38_6 gate1 call k n v0 v1 =
  bif eqI (v1.toInt) (0) then
    none
  else
  L38_5 gate1 call k n (v1) (PV.int IntKind.i64 (v0.toInt.tmod v1.toInt)) := by rw [J38_6, gate1_app]; kernel_rfl
theorem J38_9_eq (call : CallF) (k : Nat) (v0 v1 : PV) : J38_9 gate1 call k v0 v1 =
  some ([AO.pv (Ty.int IntKind.i64) v0], []) := by rw [J38_9, gate1_app]; kernel_rfl
theorem L38_5_succ (G : Gate) (call : CallF) (k n : Nat) (v0 v1 : PV) : L38_5 G call k (n + 1) v0 v1 =
  bif !eqI (v1.toInt) (0) then
    J38_6 G call k n (v0) (v1)
  else
  J38_9 G call k (v0) (v1) := by kernel_rfl
theorem J38_3_eq (call : CallF) (k : Nat) (v0 v1 v2 : PV) : J38_3 gate1 call k v0 v1 v2 =
  bif ltI (v1.toInt) (0) then
    L38_5 gate1 call k k (v0) (PV.int IntKind.i64 (IntKind.i64.wrap (0 - v1.toInt)))
  else
    L38_5 gate1 call k k (v0) (v1) := by rw [J38_3, gate1_app]; kernel_rfl
theorem J38_3s1_eq (call : CallF) (k : Nat) (v0 v1 : PV) : J38_3s1 gate1 call k v0 v1 =
  bif ltI (v1.toInt) (0) then
    L38_5 gate1 call k k (v0) (PV.int IntKind.i64 (IntKind.i64.wrap (0 - v1.toInt)))
  else
    L38_5 gate1 call k k (v0) (v1) := by rw [J38_3s1, gate1_app]; kernel_rfl
theorem R38 (call : CallF) (k : Nat) (x0 x1 : PV) : evStep Tryd.prog H0 call k 38 [AO.pv (Ty.int IntKind.i64) x0, AO.pv (Ty.int IntKind.i64) x1] =
  bif ltI (x0.toInt) (0) then
    J38_3 gate1 call k (PV.int IntKind.i64 (IntKind.i64.wrap (0 - x0.toInt))) (x1) (PV.int IntKind.i64 (IntKind.i64.wrap (0 - x0.toInt)))
  else
    J38_3s1 gate1 call k (x0) (x1) := by rw [evStep_eq]; kernel_rfl
def SJ39_7 (v0 v1 v2 v3 v4 v5 v6 v7 v8 v9 v10 : PV) : St := [AV.o (AO.pv (Ty.int IntKind.i64) v0), AV.o (AO.pv (Ty.int IntKind.i64) v1), dd, dd, AV.o (AO.box 25 [AO.pv (Ty.int IntKind.i64) v2, AO.pv (Ty.int IntKind.i64) v3]), AV.o (AO.pv (Ty.int IntKind.u64) v4), AV.o (AO.pv (Ty.int IntKind.u64) v5), dd, dd, dd, dd, dd, dd, AV.o (AO.pv (Ty.int IntKind.u64) v6), dd, AV.o (AO.pv (Ty.int IntKind.u64) v7), dd, dd, dd, dd, dd, AV.o (AO.pv (Ty.int IntKind.u64) v8), dd, dd, AV.o (AO.pv (Ty.int IntKind.u64) v9), dd, dd, dd, dd, dd, AV.o (AO.pv Ty.bool v10), dd, dd, dd, dd, dd, dd, dd, dd, dd, dd, dd, dd, dd, dd, dd, dd]
noncomputable def J39_7 (G : Gate) (call : CallF) (k : Nat) (v0 v1 v2 v3 v4 v5 v6 v7 v8 v9 v10 : PV) : R := G 7 (regAt Tryd.prog call 39 [.b, .b, .b, .b, .b, .a, .b, .x, .a]) (SJ39_7 v0 v1 v2 v3 v4 v5 v6 v7 v8 v9 v10) (behind Tryd.prog H0 G call k 39 [.b, .b, .b, .b, .b, .a, .b, .x, .a] .normal)
def SJ39_11 (v0 v1 v2 v3 : PV) : St := [dd, dd, dd, dd, AV.o (AO.box 25 [AO.pv (Ty.int IntKind.i64) v0, AO.pv (Ty.int IntKind.i64) v1]), dd, dd, dd, AV.o (AO.box 25 [AO.pv (Ty.int IntKind.i64) v2, AO.pv (Ty.int IntKind.i64) v3]), dd, dd, dd, dd, dd, dd, dd, dd, dd, dd, dd, dd, dd, dd, dd, dd, dd, dd, dd, dd, dd, dd, dd, dd, dd, dd, dd, dd, dd, dd, dd, dd, dd, dd, dd, dd, dd, dd]
noncomputable def J39_11 (G : Gate) (call : CallF) (k : Nat) (v0 v1 v2 v3 : PV) : R := G 11 (regAt Tryd.prog call 39 [.b, .b, .b, .b, .b, .b, .b, .b, .a]) (SJ39_11 v0 v1 v2 v3) (behind Tryd.prog H0 G call k 39 [.b, .b, .b, .b, .b, .b, .b, .b, .a] .normal)
def SJ39_8 (v0 v1 v2 v3 v4 v5 v6 v7 v8 v9 : PV) : St := [AV.o (AO.pv (Ty.int IntKind.i64) v0), AV.o (AO.pv (Ty.int IntKind.i64) v1), dd, dd, AV.o (AO.box 25 [AO.pv (Ty.int IntKind.i64) v2, AO.pv (Ty.int IntKind.i64) v3]), AV.o (AO.pv (Ty.int IntKind.u64) v4), AV.o (AO.pv (Ty.int IntKind.u64) v5), dd, dd, dd, dd, dd, dd, AV.o (AO.pv (Ty.int IntKind.u64) v6), dd, AV.o (AO.pv (Ty.int IntKind.u64) v7), dd, dd, dd, dd, dd, AV.o (AO.pv (Ty.int IntKind.u64) v8), dd, dd, AV.o (AO.pv (Ty.int IntKind.u64) v9), dd, dd, dd, dd, dd, dd, dd, dd, dd, dd, dd, dd, dd, dd, dd, dd, dd, dd, dd, dd, dd, dd]
noncomputable def J39_8 (G : Gate) (call : CallF) (k : Nat) (v0 v1 v2 v3 v4 v5 v6 v7 v8 v9 : PV) : R := G 8 (regAt Tryd.prog call 39 [.b, .b, .b, .b, .b, .b, .a]) (SJ39_8 v0 v1 v2 v3 v4 v5 v6 v7 v8 v9) (behind Tryd.prog H0 G call k 39 [.b, .b, .b, .b, .b, .b, .a] .normal)
def SJ39_3 (v0 v1 v2 v3 : PV) : St := [AV.o (AO.pv (Ty.int IntKind.i64) v0), AV.o (AO.pv (Ty.int IntKind.i64) v1), dd, dd, AV.o (AO.box 25 [AO.pv (Ty.int IntKind.i64) v2, AO.pv (Ty.int IntKind.i64) v3]), dd, dd, dd, dd, dd, dd, dd, dd, dd, dd, dd, dd, dd, dd, dd, dd, dd, dd, dd, dd, dd, dd, dd, dd, dd, dd, dd, dd, dd, dd, dd, dd, dd, dd, dd, dd, dd, dd, dd, dd, dd, dd]
noncomputable def J39_3 (G : Gate) (call : CallF) (k : Nat) (v0 v1 v2 v3 : PV) : R := G 3 (regAt Tryd.prog call 39 [.b, .b, .a]) (SJ39_3 v0 v1 v2 v3) (behind Tryd.prog H0 G call k 39 [.b, .b, .a] .normal)
theorem J39_7_eq (call : CallF) (k : Nat) (v0 v1 v2 v3 v4 v5 v6 v7 v8 v9 v10 : PV) : J39_7 gate1 call k v0 v1 v2 v3 v4 v5 v6 v7 v8 v9 v10 =
  some ([AO.pv (Ty.st 25) (PV.agg [PV.int IntKind.i64 0, PV.int IntKind.i64 0])], []) := by rw [J39_7, gate1_app]; kernel_rfl
theorem J39_11_eq (call : CallF) (k : Nat) (v0 v1 v2 v3 : PV) : J39_11 gate1 call k v0 v1 v2 v3 =
  some ([AO.pv (Ty.st 25) (PV.agg [v2, v3])], []) := by rw [J39_11, gate1_app]; kernel_rfl
theorem J39_8_eq (call : CallF) (k : Nat) (v0 v1 v2 v3 v4 v5 v6 v7 v8 v9 : PV) : J39_8 gate1 call k v0 v1 v2 v3 v4 v5 v6 v7 v8 v9 =
  bif !ltI (v0.toInt) (0) == ltI (v1.toInt) (0) then
    J39_11 gate1 call k (v2) (v3) (PV.int IntKind.i64 (IntKind.i64.wrap (0 - IntKind.i64.wrap v4.toInt))) (PV.int IntKind.i64 (IntKind.i64.wrap v5.toInt))
  else
    J39_11 gate1 call k (v2) (v3) (PV.int IntKind.i64 (IntKind.i64.wrap v4.toInt)) (PV.int IntKind.i64 (IntKind.i64.wrap v5.toInt)) := by rw [J39_8, gate1_app]; kernel_rfl
theorem J39_3_eq (call : CallF) (k : Nat) (v0 v1 v2 v3 : PV) : J39_3 gate1 call k v0 v1 v2 v3 =
  let c0 := call 56 [AO.pv (Ty.int IntKind.i64) v0]
  bif okRes (Ty.int IntKind.u64) c0 then
    let c1 := call 56 [AO.pv (Ty.int IntKind.i64) v1]
    bif okRes (Ty.int IntKind.u64) c1 then
      let c2 := call 55 [AO.pv (Ty.int IntKind.u64) (resPV c0), AO.pv (Ty.int IntKind.u64) (resPV c1)]
      bif okRes (Ty.int IntKind.u64) c2 then
        bif eqI ((resPV c2).toInt) (0) then
          none
        else
          bif eqI ((resPV c2).toInt) (0) then
            none
          else
            bif ltI (1073741824) (IntKind.u64.wrap ((resPV c0).toInt.tdiv (resPV c2).toInt)) then
              J39_7 gate1 call k (v0) (v1) (v2) (v3) (PV.int IntKind.u64 (IntKind.u64.wrap ((resPV c0).toInt.tdiv (resPV c2).toInt))) (PV.int IntKind.u64 (IntKind.u64.wrap ((resPV c1).toInt.tdiv (resPV c2).toInt))) (resPV c0) (resPV c1) (PV.int IntKind.u64 (IntKind.u64.wrap ((resPV c0).toInt.tdiv (resPV c2).toInt))) (PV.int IntKind.u64 (IntKind.u64.wrap ((resPV c1).toInt.tdiv (resPV c2).toInt))) (PV.bool true)
            else
              bif ltI (1073741824) (IntKind.u64.wrap ((resPV c1).toInt.tdiv (resPV c2).toInt)) then
                J39_7 gate1 call k (v0) (v1) (v2) (v3) (PV.int IntKind.u64 (IntKind.u64.wrap ((resPV c0).toInt.tdiv (resPV c2).toInt))) (PV.int IntKind.u64 (IntKind.u64.wrap ((resPV c1).toInt.tdiv (resPV c2).toInt))) (resPV c0) (resPV c1) (PV.int IntKind.u64 (IntKind.u64.wrap ((resPV c0).toInt.tdiv (resPV c2).toInt))) (PV.int IntKind.u64 (IntKind.u64.wrap ((resPV c1).toInt.tdiv (resPV c2).toInt))) (PV.bool true)
              else
                J39_8 gate1 call k (v0) (v1) (v2) (v3) (PV.int IntKind.u64 (IntKind.u64.wrap ((resPV c0).toInt.tdiv (resPV c2).toInt))) (PV.int IntKind.u64 (IntKind.u64.wrap ((resPV c1).toInt.tdiv (resPV c2).toInt))) (resPV c0) (resPV c1) (PV.int IntKind.u64 (IntKind.u64.wrap ((resPV c0).toInt.tdiv (resPV c2).toInt))) (PV.int IntKind.u64 (IntKind.u64.wrap ((resPV c1).toInt.tdiv (resPV c2).toInt)))
      else
        none
    else
      none
  else
    none := by rw [J39_3, gate1_app]; kernel_rfl
theorem R39 (call : CallF) (k : Nat) (x0 x1 : PV) : evStep Tryd.prog H0 call k 39 [AO.pv (Ty.int IntKind.i64) x0, AO.pv (Ty.int IntKind.i64) x1] =
  bif eqI (x1.toInt) (0) then
    some ([AO.pv (Ty.st 25) (PV.agg [PV.int IntKind.i64 0, PV.int IntKind.i64 0])], [])
  else
    J39_3 gate1 call k (x0) (x1) (PV.int IntKind.i64 0) (PV.int IntKind.i64 0) := by rw [evStep_eq]; kernel_rfl
theorem R40 (call : CallF) (k : Nat) (x0 x1 : PV) : evStep Tryd.prog H0 call k 40 [AO.pv (Ty.st 23) x0, AO.pv (Ty.int IntKind.i64) x1] =
  bif ltI (IntKind.u64.wrap (x0.cell 2).toInt) (0) then
    none
  else
    let c0 := call 39 [AO.pv (Ty.int IntKind.i64) x1, AO.pv (Ty.int IntKind.i64) (PV.int IntKind.i64 (IntKind.i64.wrap (1 * 2 ^ min (IntKind.u64.wrap (x0.cell 2).toInt).toNat 64)))]
    bif okRes (Ty.st 25) c0 then
      some ([AO.pv (Ty.st 25) (PV.agg [(resPV c0).cell 0, (resPV c0).cell 1])], [])
    else
      none := by rw [evStep_eq]; kernel_rfl
def SJ46_5 (v0 v1 v2 v3 v4 : PV) : St := [AV.o (AO.pv (Ty.int IntKind.i64) v0), AV.o (AO.pv (Ty.int IntKind.i64) v1), dd, dd, AV.o (AO.box 25 [AO.pv (Ty.int IntKind.i64) v2, AO.pv (Ty.int IntKind.i64) v3]), dd, dd, dd, dd, dd, dd, dd, dd, dd, dd, dd, dd, dd, dd, dd, dd, dd, dd, AV.o (AO.pv Ty.bool v4), dd, dd, dd, dd, dd, dd, dd, dd, dd, dd, dd, dd, dd, dd, dd, dd, dd, dd, dd, dd, dd, dd, dd, dd, dd, dd]
noncomputable def J46_5 (G : Gate) (call : CallF) (k n : Nat) (v0 v1 v2 v3 v4 : PV) : R := G 5 (regAt Tryd.prog call 46 [.b, .b, .a, .blk, .lp n, .b, .blk, .a, .b, .x, .a]) (SJ46_5 v0 v1 v2 v3 v4) (behind Tryd.prog H0 G call k 46 [.b, .b, .a, .blk, .lp n, .b, .blk, .a, .b, .x, .a] .normal)
def SJ46_6 (v0 v1 v2 v3 : PV) : St := [AV.o (AO.pv (Ty.int IntKind.i64) v0), AV.o (AO.pv (Ty.int IntKind.i64) v1), dd, dd, AV.o (AO.box 25 [AO.pv (Ty.int IntKind.i64) v2, AO.pv (Ty.int IntKind.i64) v3]), dd, dd, dd, dd, dd, dd, dd, dd, dd, dd, dd, dd, dd, dd, dd, dd, dd, dd, dd, dd, dd, dd, dd, dd, dd, dd, dd, dd, dd, dd, dd, dd, dd, dd, dd, dd, dd, dd, dd, dd, dd, dd, dd, dd, dd]
noncomputable def J46_6 (G : Gate) (call : CallF) (k n : Nat) (v0 v1 v2 v3 : PV) : R := G 6 (regAt Tryd.prog call 46 [.b, .b, .a, .blk, .lp n, .b, .blk, .b, .a]) (SJ46_6 v0 v1 v2 v3) (behind Tryd.prog H0 G call k 46 [.b, .b, .a, .blk, .lp n, .b, .blk, .b, .a] .normal)
def SJ46_4 (v0 v1 v2 v3 : PV) : St := [AV.o (AO.pv (Ty.int IntKind.i64) v0), AV.o (AO.pv (Ty.int IntKind.i64) v1), dd, dd, AV.o (AO.box 25 [AO.pv (Ty.int IntKind.i64) v2, AO.pv (Ty.int IntKind.i64) v3]), dd, dd, dd, dd, dd, dd, dd, dd, dd, dd, dd, dd, dd, dd, dd, dd, dd, dd, dd, dd, dd, dd, dd, dd, dd, dd, dd, dd, dd, dd, dd, dd, dd, dd, dd, dd, dd, dd, dd, dd, dd, dd, dd, dd, dd]
noncomputable def J46_4 (G : Gate) (call : CallF) (k n : Nat) (v0 v1 v2 v3 : PV) : R := G 4 (regAt Tryd.prog call 46 [.b, .b, .a, .blk, .lp n, .b, .blk, .a, .a]) (SJ46_4 v0 v1 v2 v3) (behind Tryd.prog H0 G call k 46 [.b, .b, .a, .blk, .lp n, .b, .blk, .a, .a] .normal)
def SJ46_15 (v0 v1 v2 v3 : PV) : St := [dd, dd, dd, dd, AV.o (AO.box 25 [AO.pv (Ty.int IntKind.i64) v0, AO.pv (Ty.int IntKind.i64) v1]), dd, AV.o (AO.box 25 [AO.pv (Ty.int IntKind.i64) v2, AO.pv (Ty.int IntKind.i64) v3]), dd, dd, dd, dd, dd, dd, dd, dd, dd, dd, dd, dd, dd, dd, dd, dd, dd, dd, dd, dd, dd, dd, dd, dd, dd, dd, dd, dd, dd, dd, dd, dd, dd, dd, dd, dd, dd, dd, dd, dd, dd, dd, dd]
noncomputable def J46_15 (G : Gate) (call : CallF) (k : Nat) (v0 v1 v2 v3 : PV) : R := G 15 (regAt Tryd.prog call 46 [.b, .b, .b, .b, .b, .b, .b, .a]) (SJ46_15 v0 v1 v2 v3) (behind Tryd.prog H0 G call k 46 [.b, .b, .b, .b, .b, .b, .b, .a] .normal)
def SJ46_11 (v0 v1 v2 v3 v4 v5 : PV) : St := [AV.o (AO.pv (Ty.int IntKind.i64) v0), AV.o (AO.pv (Ty.int IntKind.i64) v1), dd, dd, AV.o (AO.box 25 [AO.pv (Ty.int IntKind.i64) v2, AO.pv (Ty.int IntKind.i64) v3]), dd, dd, dd, dd, dd, dd, dd, dd, dd, dd, dd, dd, dd, dd, dd, dd, dd, dd, dd, dd, dd, dd, dd, dd, dd, dd, dd, AV.o (AO.pv (Ty.int IntKind.i64) v4), dd, AV.o (AO.pv (Ty.int IntKind.i64) v5), dd, dd, dd, dd, dd, dd, dd, dd, dd, dd, dd, dd, dd, dd, dd]
noncomputable def J46_11 (G : Gate) (call : CallF) (k : Nat) (v0 v1 v2 v3 v4 v5 : PV) : R := G 11 (regAt Tryd.prog call 46 [.b, .b, .b, .b, .a]) (SJ46_11 v0 v1 v2 v3 v4 v5) (behind Tryd.prog H0 G call k 46 [.b, .b, .b, .b, .a] .normal)
def SJ46_11s1 (v0 v1 v2 v3 : PV) : St := [AV.o (AO.pv (Ty.int IntKind.i64) v0), AV.o (AO.pv (Ty.int IntKind.i64) v1), dd, dd, AV.o (AO.box 25 [AO.pv (Ty.int IntKind.i64) v2, AO.pv (Ty.int IntKind.i64) v3]), dd, dd, dd, dd, dd, dd, dd, dd, dd, dd, dd, dd, dd, dd, dd, dd, dd, dd, dd, dd, dd, dd, dd, dd, dd, dd, dd, dd, dd, dd, dd, dd, dd, dd, dd, dd, dd, dd, dd, dd, dd, dd, dd, dd, dd]
noncomputable def J46_11s1 (G : Gate) (call : CallF) (k : Nat) (v0 v1 v2 v3 : PV) : R := G 11 (regAt Tryd.prog call 46 [.b, .b, .b, .b, .a]) (SJ46_11s1 v0 v1 v2 v3) (behind Tryd.prog H0 G call k 46 [.b, .b, .b, .b, .a] .normal)
def SJ46_8 (v0 v1 v2 v3 : PV) : St := [AV.o (AO.pv (Ty.int IntKind.i64) v0), AV.o (AO.pv (Ty.int IntKind.i64) v1), dd, dd, AV.o (AO.box 25 [AO.pv (Ty.int IntKind.i64) v2, AO.pv (Ty.int IntKind.i64) v3]), dd, dd, dd, dd, dd, dd, dd, dd, dd, dd, dd, dd, dd, dd, dd, dd, dd, dd, dd, dd, dd, dd, dd, dd, dd, dd, dd, dd, dd, dd, dd, dd, dd, dd, dd, dd, dd, dd, dd, dd, dd, dd, dd, dd, dd]
noncomputable def J46_8 (G : Gate) (call : CallF) (k : Nat) (v0 v1 v2 v3 : PV) : R := G 8 (regAt Tryd.prog call 46 [.b, .b, .b, .a, .a]) (SJ46_8 v0 v1 v2 v3) (behind Tryd.prog H0 G call k 46 [.b, .b, .b, .a, .a] .normal)
def S46_3 (v0 v1 v2 v3 : PV) : St := [AV.o (AO.pv (Ty.int IntKind.i64) v0), AV.o (AO.pv (Ty.int IntKind.i64) v1), dd, dd, AV.o (AO.box 25 [AO.pv (Ty.int IntKind.i64) v2, AO.pv (Ty.int IntKind.i64) v3]), dd, dd, dd, dd, dd, dd, dd, dd, dd, dd, dd, dd, dd, dd, dd, dd, dd, dd, dd, dd, dd, dd, dd, dd, dd, dd, dd, dd, dd, dd, dd, dd, dd, dd, dd, dd, dd, dd, dd, dd, dd, dd, dd, dd, dd]
noncomputable def L46_3 (G : Gate) (call : CallF) (k n : Nat) (v0 v1 v2 v3 : PV) : R := loopAt Tryd.prog H0 G call k 46 [.b, .b, .a, .blk] n (S46_3 v0 v1 v2 v3) (behind Tryd.prog H0 G call k 46 [.b, .b, .a, .blk])
theorem J46_5_eq (call : CallF) (k n : Nat) (v0 v1 v2 v3 v4 : PV) : J46_5 gate1 call k n v0 v1 v2 v3 v4 =
  let c2 := call 48 []
  bif okRes (Ty.st 25) c2 then
  some ([AO.pv (Ty.st 25) (PV.agg [(resPV c2).cell 0, (resPV c2).cell 1])], [])
  else
    none := by rw [J46_5, gate1_app]; kernel_rfl
theorem J46_6_eq (call : CallF) (k n : Nat) (v0 v1 v2 v3 : PV) : J46_6 gate1 call k n v0 v1 v2 v3 =
  L46_3 gate1 call k n (PV.int IntKind.i64 (IntKind.i64.wrap (v0.toInt.tdiv 2))) (PV.int IntKind.i64 (IntKind.i64.wrap (v1.toInt.tdiv 2))) (v2) (v3) := by rw [J46_6, gate1_app]; kernel_rfl
theorem J46_4_eq (call : CallF) (k n : Nat) (v0 v1 v2 v3 : PV) : J46_4 gate1 call k n v0 v1 v2 v3 =
  bif !eqI (v0.toInt.tmod 2) (0) then
    J46_5 gate1 call k n (v0) (v1) (v2) (v3) (PV.bool true)
  else
    bif !eqI (v1.toInt.tmod 2) (0) then
      J46_5 gate1 call k n (v0) (v1) (v2) (v3) (PV.bool true)
    else
      J46_6 gate1 call k n (v0) (v1) (v2) (v3) := by rw [J46_4, gate1_app]; kernel_rfl
theorem J46_15_eq (call : CallF) (k : Nat) (v0 v1 v2 v3 : PV) : J46_15 gate1 call k v0 v1 v2 v3 =
  some ([AO.pv (Ty.st 25) (PV.agg [v2, v3])], []) := by rw [J46_15, gate1_app]; kernel_rfl
theorem J46_11_eq (call : CallF) (k : Nat) (v0 v1 v2 v3 v4 v5 : PV) : J46_11 gate1 call k v0 v1 v2 v3 v4 v5 =
  let c4 := call 38 [AO.pv (Ty.int IntKind.i64) v0, AO.pv (Ty.int IntKind.i64) v1]
  bif okRes (Ty.int IntKind.i64) c4 then
    bif eqI ((resPV c4).toInt) (0) then
      none
    else
      bif eqI ((resPV c4).toInt) (0) then
        none
      else
        let c5 := call 7 [AO.pv (Ty.st 25) (PV.agg [PV.int IntKind.i64 (IntKind.i64.wrap (v0.toInt.tdiv (resPV c4).toInt)), PV.int IntKind.i64 (IntKind.i64.wrap (v1.toInt.tdiv (resPV c4).toInt))])]
        bif okRes Ty.bool c5 then
          bif !(resPV c5).toBool then
            let c6 := call 48 []
            bif okRes (Ty.st 25) c6 then
              some ([AO.pv (Ty.st 25) (PV.agg [(resPV c6).cell 0, (resPV c6).cell 1])], [])
            else
              none
          else
            J46_15 gate1 call k (v2) (v3) (PV.int IntKind.i64 (IntKind.i64.wrap (v0.toInt.tdiv (resPV c4).toInt))) (PV.int IntKind.i64 (IntKind.i64.wrap (v1.toInt.tdiv (resPV c4).toInt)))
        else
          none
  else
    none := by rw [J46_11, gate1_app]; kernel_rfl
theorem J46_11s1_eq (call : CallF) (k : Nat) (v0 v1 v2 v3 : PV) : J46_11s1 gate1 call k v0 v1 v2 v3 =
  let c7 := call 38 [AO.pv (Ty.int IntKind.i64) v0, AO.pv (Ty.int IntKind.i64) v1]
  bif okRes (Ty.int IntKind.i64) c7 then
    bif eqI ((resPV c7).toInt) (0) then
      none
    else
      bif eqI ((resPV c7).toInt) (0) then
        none
      else
        let c8 := call 7 [AO.pv (Ty.st 25) (PV.agg [PV.int IntKind.i64 (IntKind.i64.wrap (v0.toInt.tdiv (resPV c7).toInt)), PV.int IntKind.i64 (IntKind.i64.wrap (v1.toInt.tdiv (resPV c7).toInt))])]
        bif okRes Ty.bool c8 then
          bif !(resPV c8).toBool then
            let c9 := call 48 []
            bif okRes (Ty.st 25) c9 then
              some ([AO.pv (Ty.st 25) (PV.agg [(resPV c9).cell 0, (resPV c9).cell 1])], [])
            else
              none
          else
            J46_15 gate1 call k (v2) (v3) (PV.int IntKind.i64 (IntKind.i64.wrap (v0.toInt.tdiv (resPV c7).toInt))) (PV.int IntKind.i64 (IntKind.i64.wrap (v1.toInt.tdiv (resPV c7).toInt)))
        else
          none
  else
    none := by rw [J46_11s1, gate1_app]; kernel_rfl
theorem J46_8_eq (call : CallF) (k : Nat) (v0 v1 v2 v3 : PV) : J46_8 gate1 call k v0 v1 v2 v3 =
  bif ltI (v1.toInt) (0) then
    J46_11 gate1 call k (PV.int IntKind.i64 (IntKind.i64.wrap (0 - v0.toInt))) (PV.int IntKind.i64 (IntKind.i64.wrap (0 - v1.toInt))) (v2) (v3) (PV.int IntKind.i64 (IntKind.i64.wrap (0 - v0.toInt))) (PV.int IntKind.i64 (IntKind.i64.wrap (0 - v1.toInt)))
  else
    J46_11s1 gate1 call k (v0) (v1) (v2) (v3) := by rw [J46_8, gate1_app]; kernel_rfl
theorem L46_3_succ (G : Gate) (call : CallF) (k n : Nat) (v0 v1 v2 v3 : PV) : L46_3 G call k (n + 1) v0 v1 v2 v3 =
  let c1 := call 60 [AO.pv (Ty.int IntKind.i64) v0]
  bif okRes Ty.bool c1 then
    bif (resPV c1).toBool then
      J46_4 G call k n (v0) (v1) (v2) (v3)
    else
      let c3 := call 60 [AO.pv (Ty.int IntKind.i64) v1]
      bif okRes Ty.bool c3 then
        bif (resPV c3).toBool then
          J46_4 G call k n (v0) (v1) (v2) (v3)
        else
  J46_8 G call k (v0) (v1) (v2) (v3)
      else
        none
  else
    none := by kernel_rfl
theorem R46 (call : CallF) (k : Nat) (x0 x1 : PV) : evStep Tryd.prog H0 call k 46 [AO.pv (Ty.int IntKind.i64) x0, AO.pv (Ty.int IntKind.i64) x1] =
  bif eqI (x1.toInt) (0) then
    let c0 := call 48 []
    bif okRes (Ty.st 25) c0 then
      some ([AO.pv (Ty.st 25) (PV.agg [(resPV c0).cell 0, (resPV c0).cell 1])], [])
    else
      none
  else
    L46_3 gate1 call k k (x0) (x1) (PV.int IntKind.i64 0) (PV.int IntKind.i64 0) := by rw [evStep_eq]; kernel_rfl
theorem R47 (call : CallF) (k : Nat) (x0 x1 : PV) : evStep Tryd.prog H0 call k 47 [AO.pv (Ty.st 25) x0, AO.pv (Ty.st 25) x1] =
  let c0 := call 7 [AO.pv (Ty.st 25) (PV.agg [x0.cell 0, x0.cell 1])]
  bif okRes Ty.bool c0 then
    bif (resPV c0).toBool then
      let c1 := call 7 [AO.pv (Ty.st 25) (PV.agg [x1.cell 0, x1.cell 1])]
      bif okRes Ty.bool c1 then
        some ([AO.pv Ty.bool (resPV c1)], [])
      else
        none
    else
      some ([AO.pv Ty.bool (PV.bool false)], [])
  else
    none := by rw [evStep_eq]; kernel_rfl
theorem R48 (call : CallF) (k : Nat)  : evStep Tryd.prog H0 call k 48 [] =
  some ([AO.pv (Ty.st 25) (PV.agg [PV.int IntKind.i64 0, PV.int IntKind.i64 0])], []) := by rw [evStep_eq]; kernel_rfl
def SJ55_2 (v0 v1 : PV) : St := [AV.o (AO.pv (Ty.int IntKind.u64) v0), AV.o (AO.pv (Ty.int IntKind.u64) v1), dd, dd, dd, dd, dd, dd, dd, dd, dd, dd]
noncomputable def J55_2 (G : Gate) (call : CallF) (k n : Nat) (v0 v1 : PV) : R := G 2 (regAt Tryd.prog call 55 [.b, .a, .blk, .lp n, .b, .blk]) (SJ55_2 v0 v1) (behind Tryd.prog H0 G call k 55 [.b, .a, .blk, .lp n, .b, .blk] .normal)
def SJ55_3 (v0 v1 : PV) : St := [AV.o (AO.pv (Ty.int IntKind.u64) v0), AV.o (AO.pv (Ty.int IntKind.u64) v1), dd, dd, dd, dd, dd, dd, dd, dd, dd, dd]
noncomputable def J55_3 (G : Gate) (call : CallF) (k : Nat) (v0 v1 : PV) : R := G 3 (regAt Tryd.prog call 55 [.b, .b, .a]) (SJ55_3 v0 v1) (behind Tryd.prog H0 G call k 55 [.b, .b, .a] .normal)
def S55_1 (v0 v1 : PV) : St := [AV.o (AO.pv (Ty.int IntKind.u64) v0), AV.o (AO.pv (Ty.int IntKind.u64) v1), dd, dd, dd, dd, dd, dd, dd, dd, dd, dd]
noncomputable def L55_1 (G : Gate) (call : CallF) (k n : Nat) (v0 v1 : PV) : R := loopAt Tryd.prog H0 G call k 55 [.b, .a, .blk] n (S55_1 v0 v1) (behind Tryd.prog H0 G call k 55 [.b, .a, .blk])
theorem J55_2_eq (call : CallF) (k n : Nat) (v0 v1 : PV) : J55_2 gate1 call k n v0 v1 =
  bif eqI (v1.toInt) (0) then
    none
  else
  L55_1 gate1 call k n (v1) (PV.int IntKind.u64 (v0.toInt.tmod v1.toInt)) := by rw [J55_2, gate1_app]; kernel_rfl
theorem J55_3_eq (call : CallF) (k : Nat) (v0 v1 : PV) : J55_3 gate1 call k v0 v1 =
  some ([AO.pv (Ty.int IntKind.u64) v0], []) := by rw [J55_3, gate1_app]; kernel_rfl
theorem L55_1_succ (G : Gate) (call : CallF) (k n : Nat) (v0 v1 : PV) : L55_1 G call k (n + 1) v0 v1 =
  bif !eqI (v1.toInt) (0) then
    J55_2 G call k n (v0) (v1)
  else
  J55_3 G call k (v0) (v1) := by kernel_rfl
theorem R55 (call : CallF) (k : Nat) (x0 x1 : PV) : evStep Tryd.prog H0 call k 55 [AO.pv (Ty.int IntKind.u64) x0, AO.pv (Ty.int IntKind.u64) x1] =
  L55_1 gate1 call k k (x0) (x1) := by rw [evStep_eq]; kernel_rfl
def SJ56_3 (v0 : PV) : St := [AV.o (AO.pv (Ty.int IntKind.i64) v0), dd, dd, dd, dd, dd, dd, dd, dd, dd]
noncomputable def J56_3 (G : Gate) (call : CallF) (k : Nat) (v0 : PV) : R := G 3 (regAt Tryd.prog call 56 [.b, .b, .a]) (SJ56_3 v0) (behind Tryd.prog H0 G call k 56 [.b, .b, .a] .normal)
theorem J56_3_eq (call : CallF) (k : Nat) (v0 : PV) : J56_3 gate1 call k v0 =
  some ([AO.pv (Ty.int IntKind.u64) (PV.int IntKind.u64 (IntKind.u64.wrap v0.toInt))], []) := by rw [J56_3, gate1_app]; kernel_rfl
theorem R56 (call : CallF) (k : Nat) (x0 : PV) : evStep Tryd.prog H0 call k 56 [AO.pv (Ty.int IntKind.i64) x0] =
  bif ltI (x0.toInt) (0) then
    some ([AO.pv (Ty.int IntKind.u64) (PV.int IntKind.u64 (IntKind.u64.wrap (0 - IntKind.u64.wrap x0.toInt)))], [])
  else
    J56_3 gate1 call k (x0) := by rw [evStep_eq]; kernel_rfl
def SJ57_4 (v0 v1 v2 v3 v4 v5 v6 v7 v8 v9 v10 v11 v12 : PV) : St := [dd, dd, AV.o (AO.box 23 [AO.pv Ty.str v0, AO.pv (Ty.int IntKind.i64) v1, AO.pv (Ty.int IntKind.i64) v2, AO.pv Ty.str v3, AO.pv Ty.str v4]), dd, AV.o (AO.box 25 [AO.pv (Ty.int IntKind.i64) v5, AO.pv (Ty.int IntKind.i64) v6]), AV.o (AO.box 71 [AO.pv Ty.bool v7, AO.pv (Ty.int IntKind.u64) v8, AO.pv (Ty.int IntKind.u64) v9]), AV.o (AO.pv (Ty.int IntKind.u64) v10), dd, dd, dd, dd, dd, dd, dd, dd, dd, dd, dd, dd, dd, dd, AV.o (AO.pv (Ty.int IntKind.u64) v11), dd, dd, dd, dd, dd, dd, dd, dd, dd, dd, dd, dd, dd, dd, dd, dd, dd, dd, AV.o (AO.pv Ty.bool v12), dd, dd, dd, dd, dd, dd, dd, dd, dd, dd, dd, dd, dd, dd, dd, dd, dd, dd, dd, dd, dd, dd, dd, dd, dd, dd, dd, dd, dd, dd, dd, dd, dd, dd, dd, dd, dd, dd, dd, dd, dd]
noncomputable def J57_4 (G : Gate) (call : CallF) (k : Nat) (v0 v1 v2 v3 v4 v5 v6 v7 v8 v9 v10 v11 v12 : PV) : R := G 4 (regAt Tryd.prog call 57 [.b, .b, .b, .a, .b, .x, .a]) (SJ57_4 v0 v1 v2 v3 v4 v5 v6 v7 v8 v9 v10 v11 v12) (behind Tryd.prog H0 G call k 57 [.b, .b, .b, .a, .b, .x, .a] .normal)
def SJ57_9 (v0 v1 v2 v3 v4 v5 v6 : PV) : St := [dd, dd, AV.o (AO.box 23 [AO.pv Ty.str v0, AO.pv (Ty.int IntKind.i64) v1, AO.pv (Ty.int IntKind.i64) v2, AO.pv Ty.str v3, AO.pv Ty.str v4]), dd, AV.o (AO.box 25 [AO.pv (Ty.int IntKind.i64) v5, AO.pv (Ty.int IntKind.i64) v6]), dd, dd, dd, dd, dd, dd, dd, dd, dd, dd, dd, dd, dd, dd, dd, dd, dd, dd, dd, dd, dd, dd, dd, dd, dd, dd, dd, dd, dd, dd, dd, dd, dd, dd, dd, dd, dd, dd, dd, dd, dd, dd, dd, dd, dd, dd, dd, dd, dd, dd, dd, dd, dd, dd, dd, dd, dd, dd, dd, dd, dd, dd, dd, dd, dd, dd, dd, dd, dd, dd, dd, dd, dd, dd, dd, dd, dd]
noncomputable def J57_9 (G : Gate) (call : CallF) (k : Nat) (v0 v1 v2 v3 v4 v5 v6 : PV) : R := G 9 (regAt Tryd.prog call 57 [.b, .b, .b, .b, .a, .b, .blk, .b, .x, .b, .a]) (SJ57_9 v0 v1 v2 v3 v4 v5 v6) (behind Tryd.prog H0 G call k 57 [.b, .b, .b, .b, .a, .b, .blk, .b, .x, .b, .a] .normal)
def SJ57_18 (v0 v1 v2 v3 v4 v5 v6 v7 v8 v9 : PV) : St := [dd, dd, AV.o (AO.box 23 [AO.pv Ty.str v0, AO.pv (Ty.int IntKind.i64) v1, AO.pv (Ty.int IntKind.i64) v2, AO.pv Ty.str v3, AO.pv Ty.str v4]), dd, AV.o (AO.box 25 [AO.pv (Ty.int IntKind.i64) v5, AO.pv (Ty.int IntKind.i64) v6]), dd, dd, dd, AV.o (AO.pv (Ty.int IntKind.i64) v7), dd, dd, dd, dd, dd, dd, dd, dd, dd, dd, dd, dd, dd, dd, dd, dd, dd, dd, dd, dd, dd, dd, dd, dd, dd, dd, dd, dd, dd, dd, dd, dd, dd, dd, dd, dd, dd, dd, dd, dd, dd, dd, dd, dd, dd, dd, dd, dd, dd, dd, dd, dd, dd, dd, dd, dd, dd, dd, dd, dd, AV.o (AO.pv (Ty.int IntKind.i64) v8), dd, dd, dd, dd, dd, dd, dd, AV.o (AO.pv (Ty.int IntKind.i64) v9), dd, dd, dd, dd]
noncomputable def J57_18 (G : Gate) (call : CallF) (k : Nat) (v0 v1 v2 v3 v4 v5 v6 v7 v8 v9 : PV) : R := G 18 (regAt Tryd.prog call 57 [.b, .b, .b, .b, .a, .b, .blk, .b, .y, .b, .x, .b, .b, .b, .b, .b, .a]) (SJ57_18 v0 v1 v2 v3 v4 v5 v6 v7 v8 v9) (behind Tryd.prog H0 G call k 57 [.b, .b, .b, .b, .a, .b, .blk, .b, .y, .b, .x, .b, .b, .b, .b, .b, .a] .normal)
def SJ57_18s1 (v0 v1 v2 v3 v4 v5 v6 v7 v8 : PV) : St := [dd, dd, AV.o (AO.box 23 [AO.pv Ty.str v0, AO.pv (Ty.int IntKind.i64) v1, AO.pv (Ty.int IntKind.i64) v2, AO.pv Ty.str v3, AO.pv Ty.str v4]), dd, AV.o (AO.box 25 [AO.pv (Ty.int IntKind.i64) v5, AO.pv (Ty.int IntKind.i64) v6]), dd, dd, dd, AV.o (AO.pv (Ty.int IntKind.i64) v7), dd, dd, dd, dd, dd, dd, dd, dd, dd, dd, dd, dd, dd, dd, dd, dd, dd, dd, dd, dd, dd, dd, dd, dd, dd, dd, dd, dd, dd, dd, dd, dd, dd, dd, dd, dd, dd, dd, dd, dd, dd, dd, dd, dd, dd, dd, dd, dd, dd, dd, dd, dd, dd, dd, dd, dd, dd, dd, dd, dd, AV.o (AO.pv (Ty.int IntKind.i64) v8), dd, dd, dd, dd, dd, dd, dd, dd, dd, dd, dd, dd]
noncomputable def J57_18s1 (G : Gate) (call : CallF) (k : Nat) (v0 v1 v2 v3 v4 v5 v6 v7 v8 : PV) : R := G 18 (regAt Tryd.prog call 57 [.b, .b, .b, .b, .a, .b, .blk, .b, .y, .b, .x, .b, .b, .b, .b, .b, .a]) (SJ57_18s1 v0 v1 v2 v3 v4 v5 v6 v7 v8) (behind Tryd.prog H0 G call k 57 [.b, .b, .b, .b, .a, .b, .blk, .b, .y, .b, .x, .b, .b, .b, .b, .b, .a] .normal)
def SJ57_14 (v0 v1 v2 v3 v4 v5 v6 v7 v8 v9 v10 v11 v12 v13 v14 : PV) : St := [dd, dd, AV.o (AO.box 23 [AO.pv Ty.str v0, AO.pv (Ty.int IntKind.i64) v1, AO.pv (Ty.int IntKind.i64) v2, AO.pv Ty.str v3, AO.pv Ty.str v4]), dd, AV.o (AO.box 25 [AO.pv (Ty.int IntKind.i64) v5, AO.pv (Ty.int IntKind.i64) v6]), AV.o (AO.box 71 [AO.pv Ty.bool v7, AO.pv (Ty.int IntKind.u64) v8, AO.pv (Ty.int IntKind.u64) v9]), AV.o (AO.pv (Ty.int IntKind.u64) v10), AV.o (AO.pv (Ty.int IntKind.u64) v11), dd, dd, dd, dd, dd, dd, dd, dd, dd, dd, dd, dd, dd, AV.o (AO.pv (Ty.int IntKind.u64) v12), dd, dd, dd, dd, dd, dd, dd, dd, dd, dd, dd, dd, dd, dd, dd, dd, dd, dd, dd, dd, dd, dd, dd, dd, dd, dd, dd, dd, dd, dd, dd, dd, dd, dd, dd, AV.ptr 5 [] 2, AV.o (AO.pv (Ty.int IntKind.u64) v13), dd, dd, dd, AV.o (AO.pv (Ty.int IntKind.u64) v14), dd, dd, dd, dd, dd, dd, dd, dd, dd, dd, dd, dd, dd, dd, dd, dd, dd, dd, dd]
noncomputable def J57_14 (G : Gate) (call : CallF) (k : Nat) (v0 v1 v2 v3 v4 v5 v6 v7 v8 v9 v10 v11 v12 v13 v14 : PV) : R := G 14 (regAt Tryd.prog call 57 [.b, .b, .b, .b, .a, .b, .blk, .b, .y, .b, .x, .b, .b, .a]) (SJ57_14 v0 v1 v2 v3 v4 v5 v6 v7 v8 v9 v10 v11 v12 v13 v14) (behind Tryd.prog H0 G call k 57 [.b, .b, .b, .b, .a, .b, .blk, .b, .y, .b, .x, .b, .b, .a] .normal)
def SJ57_14s1 (v0 v1 v2 v3 v4 v5 v6 v7 v8 v9 v10 v11 v12 v13 : PV) : St := [dd, dd, AV.o (AO.box 23 [AO.pv Ty.str v0, AO.pv (Ty.int IntKind.i64) v1, AO.pv (Ty.int IntKind.i64) v2, AO.pv Ty.str v3, AO.pv Ty.str v4]), dd, AV.o (AO.box 25 [AO.pv (Ty.int IntKind.i64) v5, AO.pv (Ty.int IntKind.i64) v6]), AV.o (AO.box 71 [AO.pv Ty.bool v7, AO.pv (Ty.int IntKind.u64) v8, AO.pv (Ty.int IntKind.u64) v9]), AV.o (AO.pv (Ty.int IntKind.u64) v10), AV.o (AO.pv (Ty.int IntKind.u64) v11), dd, dd, dd, dd, dd, dd, dd, dd, dd, dd, dd, dd, dd, AV.o (AO.pv (Ty.int IntKind.u64) v12), dd, dd, dd, dd, dd, dd, dd, dd, dd, dd, dd, dd, dd, dd, dd, dd, dd, dd, dd, dd, dd, dd, dd, dd, dd, dd, dd, dd, dd, dd, dd, dd, dd, dd, dd, AV.ptr 5 [] 2, AV.o (AO.pv (Ty.int IntKind.u64) v13), dd, dd, dd, dd, dd, dd, dd, dd, dd, dd, dd, dd, dd, dd, dd, dd, dd, dd, dd, dd, dd, dd, dd]
noncomputable def J57_14s1 (G : Gate) (call : CallF) (k : Nat) (v0 v1 v2 v3 v4 v5 v6 v7 v8 v9 v10 v11 v12 v13 : PV) : R := G 14 (regAt Tryd.prog call 57 [.b, .b, .b, .b, .a, .b, .blk, .b, .y, .b, .x, .b, .b, .a]) (SJ57_14s1 v0 v1 v2 v3 v4 v5 v6 v7 v8 v9 v10 v11 v12 v13) (behind Tryd.prog H0 G call k 57 [.b, .b, .b, .b, .a, .b, .blk, .b, .y, .b, .x, .b, .b, .a] .normal)
def SJ57_19 (v0 v1 : PV) : St := [dd, dd, dd, dd, AV.o (AO.box 25 [AO.pv (Ty.int IntKind.i64) v0, AO.pv (Ty.int IntKind.i64) v1]), dd, dd, dd, dd, dd, dd, dd, dd, dd, dd, dd, dd, dd, dd, dd, dd, dd, dd, dd, dd, dd, dd, dd, dd, dd, dd, dd, dd, dd, dd, dd, dd, dd, dd, dd, dd, dd, dd, dd, dd, dd, dd, dd, dd, dd, dd, dd, dd, dd, dd, dd, dd, dd, dd, dd, dd, dd, dd, dd, dd, dd, dd, dd, dd, dd, dd, dd, dd, dd, dd, dd, dd, dd, dd, dd, dd, dd]
noncomputable def J57_19 (G : Gate) (call : CallF) (k : Nat) (v0 v1 : PV) : R := G 19 (regAt Tryd.prog call 57 [.b, .b, .b, .b, .b, .a]) (SJ57_19 v0 v1) (behind Tryd.prog H0 G call k 57 [.b, .b, .b, .b, .b, .a] .normal)
def SJ57_5 (v0 v1 v2 v3 v4 v5 v6 v7 v8 v9 v10 v11 : PV) : St := [dd, dd, AV.o (AO.box 23 [AO.pv Ty.str v0, AO.pv (Ty.int IntKind.i64) v1, AO.pv (Ty.int IntKind.i64) v2, AO.pv Ty.str v3, AO.pv Ty.str v4]), dd, AV.o (AO.box 25 [AO.pv (Ty.int IntKind.i64) v5, AO.pv (Ty.int IntKind.i64) v6]), AV.o (AO.box 71 [AO.pv Ty.bool v7, AO.pv (Ty.int IntKind.u64) v8, AO.pv (Ty.int IntKind.u64) v9]), AV.o (AO.pv (Ty.int IntKind.u64) v10), dd, dd, dd, dd, dd, dd, dd, dd, dd, dd, dd, dd, dd, dd, AV.o (AO.pv (Ty.int IntKind.u64) v11), dd, dd, dd, dd, dd, dd, dd, dd, dd, dd, dd, dd, dd, dd, dd, dd, dd, dd, dd, dd, dd, dd, dd, dd, dd, dd, dd, dd, dd, dd, dd, dd, dd, dd, dd, dd, dd, dd, dd, dd, dd, dd, dd, dd, dd, dd, dd, dd, dd, dd, dd, dd, dd, dd, dd, dd, dd, dd, dd, dd]
noncomputable def J57_5 (G : Gate) (call : CallF) (k : Nat) (v0 v1 v2 v3 v4 v5 v6 v7 v8 v9 v10 v11 : PV) : R := G 5 (regAt Tryd.prog call 57 [.b, .b, .b, .b, .a, .a]) (SJ57_5 v0 v1 v2 v3 v4 v5 v6 v7 v8 v9 v10 v11) (behind Tryd.prog H0 G call k 57 [.b, .b, .b, .b, .a, .a] .normal)
theorem J57_4_eq (call : CallF) (k : Nat) (v0 v1 v2 v3 v4 v5 v6 v7 v8 v9 v10 v11 v12 : PV) : J57_4 gate1 call k v0 v1 v2 v3 v4 v5 v6 v7 v8 v9 v10 v11 v12 =
  let c1 := call 64 [AO.pv (Ty.st 71) (PV.agg [v7, v8, v9])]
  bif okRes (Ty.int IntKind.i64) c1 then
    let c2 := call 40 [AO.pv (Ty.st 23) (PV.agg [v0, v1, v2, v3, v4]), AO.pv (Ty.int IntKind.i64) (resPV c1)]
    bif okRes (Ty.st 25) c2 then
      some ([AO.pv (Ty.st 25) (PV.agg [(resPV c2).cell 0, (resPV c2).cell 1])], [])
    else
      none
  else
    none := by rw [J57_4, gate1_app]; kernel_rfl
theorem J57_9_eq (call : CallF) (k : Nat) (v0 v1 v2 v3 v4 v5 v6 : PV) : J57_9 gate1 call k v0 v1 v2 v3 v4 v5 v6 =
  let c4 := call 12 [AO.pv (Ty.st 23) (PV.agg [v0, v1, v2, v3, v4])]
  bif okRes (Ty.st 25) c4 then
    some ([AO.pv (Ty.st 25) (PV.agg [(resPV c4).cell 0, (resPV c4).cell 1])], [])
  else
    none := by rw [J57_9, gate1_app]; kernel_rfl
theorem J57_18_eq (call : CallF) (k : Nat) (v0 v1 v2 v3 v4 v5 v6 v7 v8 v9 : PV) : J57_18 gate1 call k v0 v1 v2 v3 v4 v5 v6 v7 v8 v9 =
  let c5 := call 40 [AO.pv (Ty.st 23) (PV.agg [v0, v1, v2, v3, v4]), AO.pv (Ty.int IntKind.i64) v7]
  bif okRes (Ty.st 25) c5 then
    some ([AO.pv (Ty.st 25) (PV.agg [(resPV c5).cell 0, (resPV c5).cell 1])], [])
  else
    none := by rw [J57_18, gate1_app]; kernel_rfl
theorem J57_18s1_eq (call : CallF) (k : Nat) (v0 v1 v2 v3 v4 v5 v6 v7 v8 : PV) : J57_18s1 gate1 call k v0 v1 v2 v3 v4 v5 v6 v7 v8 =
  let c6 := call 40 [AO.pv (Ty.st 23) (PV.agg [v0, v1, v2, v3, v4]), AO.pv (Ty.int IntKind.i64) v7]
  bif okRes (Ty.st 25) c6 then
    some ([AO.pv (Ty.st 25) (PV.agg [(resPV c6).cell 0, (resPV c6).cell 1])], [])
  else
    none := by rw [J57_18s1, gate1_app]; kernel_rfl
theorem J57_14_eq (call : CallF) (k : Nat) (v0 v1 v2 v3 v4 v5 v6 v7 v8 v9 v10 v11 v12 v13 v14 : PV) : J57_14 gate1 call k v0 v1 v2 v3 v4 v5 v6 v7 v8 v9 v10 v11 v12 v13 v14 =
  bif leI (v10.toInt) (IntKind.u64.wrap (Nat.cast (BitVec.ofInt 64 v11.toInt &&& BitVec.ofInt 64 (IntKind.u64.wrap (IntKind.u64.wrap (2 * v10.toInt) - 1))).toNat : Int)) then
    J57_18 gate1 call k (v0) (v1) (v2) (v3) (v4) (v5) (v6) (PV.int IntKind.i64 (IntKind.i64.wrap (IntKind.i64.wrap (IntKind.u64.wrap (Nat.cast (BitVec.ofInt 64 v11.toInt &&& BitVec.ofInt 64 (IntKind.u64.wrap (IntKind.u64.wrap (2 * v10.toInt) - 1))).toNat : Int)) - IntKind.i64.wrap (IntKind.u64.wrap (2 * v10.toInt))))) (PV.int IntKind.i64 (IntKind.i64.wrap (IntKind.u64.wrap (Nat.cast (BitVec.ofInt 64 v11.toInt &&& BitVec.ofInt 64 (IntKind.u64.wrap (IntKind.u64.wrap (2 * v10.toInt) - 1))).toNat : Int)))) (PV.int IntKind.i64 (IntKind.i64.wrap (IntKind.i64.wrap (IntKind.u64.wrap (Nat.cast (BitVec.ofInt 64 v11.toInt &&& BitVec.ofInt 64 (IntKind.u64.wrap (IntKind.u64.wrap (2 * v10.toInt) - 1))).toNat : Int)) - IntKind.i64.wrap (IntKind.u64.wrap (2 * v10.toInt)))))
  else
    J57_18s1 gate1 call k (v0) (v1) (v2) (v3) (v4) (v5) (v6) (PV.int IntKind.i64 (IntKind.i64.wrap (IntKind.u64.wrap (Nat.cast (BitVec.ofInt 64 v11.toInt &&& BitVec.ofInt 64 (IntKind.u64.wrap (IntKind.u64.wrap (2 * v10.toInt) - 1))).toNat : Int)))) (PV.int IntKind.i64 (IntKind.i64.wrap (IntKind.u64.wrap (Nat.cast (BitVec.ofInt 64 v11.toInt &&& BitVec.ofInt 64 (IntKind.u64.wrap (IntKind.u64.wrap (2 * v10.toInt) - 1))).toNat : Int)))) := by rw [J57_14, gate1_app]; kernel_rfl
theorem J57_14s1_eq (call : CallF) (k : Nat) (v0 v1 v2 v3 v4 v5 v6 v7 v8 v9 v10 v11 v12 v13 : PV) : J57_14s1 gate1 call k v0 v1 v2 v3 v4 v5 v6 v7 v8 v9 v10 v11 v12 v13 =
  bif leI (v10.toInt) (IntKind.u64.wrap (Nat.cast (BitVec.ofInt 64 v11.toInt &&& BitVec.ofInt 64 (IntKind.u64.wrap (IntKind.u64.wrap (2 * v10.toInt) - 1))).toNat : Int)) then
    J57_18 gate1 call k (v0) (v1) (v2) (v3) (v4) (v5) (v6) (PV.int IntKind.i64 (IntKind.i64.wrap (IntKind.i64.wrap (IntKind.u64.wrap (Nat.cast (BitVec.ofInt 64 v11.toInt &&& BitVec.ofInt 64 (IntKind.u64.wrap (IntKind.u64.wrap (2 * v10.toInt) - 1))).toNat : Int)) - IntKind.i64.wrap (IntKind.u64.wrap (2 * v10.toInt))))) (PV.int IntKind.i64 (IntKind.i64.wrap (IntKind.u64.wrap (Nat.cast (BitVec.ofInt 64 v11.toInt &&& BitVec.ofInt 64 (IntKind.u64.wrap (IntKind.u64.wrap (2 * v10.toInt) - 1))).toNat : Int)))) (PV.int IntKind.i64 (IntKind.i64.wrap (IntKind.i64.wrap (IntKind.u64.wrap (Nat.cast (BitVec.ofInt 64 v11.toInt &&& BitVec.ofInt 64 (IntKind.u64.wrap (IntKind.u64.wrap (2 * v10.toInt) - 1))).toNat : Int)) - IntKind.i64.wrap (IntKind.u64.wrap (2 * v10.toInt)))))
  else
    J57_18s1 gate1 call k (v0) (v1) (v2) (v3) (v4) (v5) (v6) (PV.int IntKind.i64 (IntKind.i64.wrap (IntKind.u64.wrap (Nat.cast (BitVec.ofInt 64 v11.toInt &&& BitVec.ofInt 64 (IntKind.u64.wrap (IntKind.u64.wrap (2 * v10.toInt) - 1))).toNat : Int)))) (PV.int IntKind.i64 (IntKind.i64.wrap (IntKind.u64.wrap (Nat.cast (BitVec.ofInt 64 v11.toInt &&& BitVec.ofInt 64 (IntKind.u64.wrap (IntKind.u64.wrap (2 * v10.toInt) - 1))).toNat : Int)))) := by rw [J57_14s1, gate1_app]; kernel_rfl
theorem J57_19_eq (call : CallF) (k : Nat) (v0 v1 : PV) : J57_19 gate1 call k v0 v1 =
  some ([AO.pv (Ty.st 25) (PV.agg [PV.int IntKind.i64 0, PV.int IntKind.i64 0])], []) := by rw [J57_19, gate1_app]; kernel_rfl
theorem J57_5_eq (call : CallF) (k : Nat) (v0 v1 v2 v3 v4 v5 v6 v7 v8 v9 v10 v11 : PV) : J57_5 gate1 call k v0 v1 v2 v3 v4 v5 v6 v7 v8 v9 v10 v11 =
  bif v4.toStr.data.toList == (ByteArray.mk #[115, 97, 116]).data.toList then
    bif v7.toBool then
      let c3 := call 11 [AO.pv (Ty.st 23) (PV.agg [v0, v1, v2, v3, v4])]
      bif okRes (Ty.st 25) c3 then
        some ([AO.pv (Ty.st 25) (PV.agg [(resPV c3).cell 0, (resPV c3).cell 1])], [])
      else
        none
    else
      J57_9 gate1 call k (v0) (v1) (v2) (v3) (v4) (v5) (v6)
  else
    bif v4.toStr.data.toList == (ByteArray.mk #[119, 114, 97, 112]).data.toList then
      bif v7.toBool then
        J57_14 gate1 call k (v0) (v1) (v2) (v3) (v4) (v5) (v6) (v7) (v8) (v9) (v10) (PV.int IntKind.u64 (IntKind.u64.wrap (0 - v9.toInt))) (v11) (v9) (PV.int IntKind.u64 (IntKind.u64.wrap (0 - v9.toInt)))
      else
        J57_14s1 gate1 call k (v0) (v1) (v2) (v3) (v4) (v5) (v6) (v7) (v8) (v9) (v10) (v9) (v11) (v9)
    else
      J57_19 gate1 call k (v5) (v6) := by rw [J57_5, gate1_app]; kernel_rfl
theorem R57 (call : CallF) (k : Nat) (x0 x1 : PV) : evStep Tryd.prog H0 call k 57 [AO.pv (Ty.st 23) x0, AO.pv (Ty.st 51) x1] =
  let c0 := call 63 [AO.pv (Ty.st 51) (PV.agg [x1.cell 0, x1.cell 1, x1.cell 2]), AO.pv (Ty.int IntKind.i64) (x0.cell 2), AO.pv Ty.str (x0.cell 3)]
  bif okRes (Ty.st 71) c0 then
    bif ltI (IntKind.u64.wrap (IntKind.i64.wrap ((x0.cell 1).toInt + (x0.cell 2).toInt))) (0) then
      none
    else
      bif eqI (((resPV c0).cell 1).toInt) (0) then
        bif ltI (((resPV c0).cell 2).toInt) (IntKind.u64.wrap (1 * 2 ^ min (IntKind.u64.wrap (IntKind.i64.wrap ((x0.cell 1).toInt + (x0.cell 2).toInt))).toNat 64)) then
          J57_4 gate1 call k (x0.cell 0) (x0.cell 1) (x0.cell 2) (x0.cell 3) (x0.cell 4) (PV.int IntKind.i64 0) (PV.int IntKind.i64 0) ((resPV c0).cell 0) ((resPV c0).cell 1) ((resPV c0).cell 2) (PV.int IntKind.u64 (IntKind.u64.wrap (1 * 2 ^ min (IntKind.u64.wrap (IntKind.i64.wrap ((x0.cell 1).toInt + (x0.cell 2).toInt))).toNat 64))) (PV.int IntKind.u64 (IntKind.u64.wrap (1 * 2 ^ min (IntKind.u64.wrap (IntKind.i64.wrap ((x0.cell 1).toInt + (x0.cell 2).toInt))).toNat 64))) (PV.bool true)
        else
          bif ((resPV c0).cell 0).toBool then
            bif eqI (((resPV c0).cell 2).toInt) (IntKind.u64.wrap (1 * 2 ^ min (IntKind.u64.wrap (IntKind.i64.wrap ((x0.cell 1).toInt + (x0.cell 2).toInt))).toNat 64)) then
              J57_4 gate1 call k (x0.cell 0) (x0.cell 1) (x0.cell 2) (x0.cell 3) (x0.cell 4) (PV.int IntKind.i64 0) (PV.int IntKind.i64 0) ((resPV c0).cell 0) ((resPV c0).cell 1) ((resPV c0).cell 2) (PV.int IntKind.u64 (IntKind.u64.wrap (1 * 2 ^ min (IntKind.u64.wrap (IntKind.i64.wrap ((x0.cell 1).toInt + (x0.cell 2).toInt))).toNat 64))) (PV.int IntKind.u64 (IntKind.u64.wrap (1 * 2 ^ min (IntKind.u64.wrap (IntKind.i64.wrap ((x0.cell 1).toInt + (x0.cell 2).toInt))).toNat 64))) (PV.bool true)
            else
              J57_5 gate1 call k (x0.cell 0) (x0.cell 1) (x0.cell 2) (x0.cell 3) (x0.cell 4) (PV.int IntKind.i64 0) (PV.int IntKind.i64 0) ((resPV c0).cell 0) ((resPV c0).cell 1) ((resPV c0).cell 2) (PV.int IntKind.u64 (IntKind.u64.wrap (1 * 2 ^ min (IntKind.u64.wrap (IntKind.i64.wrap ((x0.cell 1).toInt + (x0.cell 2).toInt))).toNat 64))) (PV.int IntKind.u64 (IntKind.u64.wrap (1 * 2 ^ min (IntKind.u64.wrap (IntKind.i64.wrap ((x0.cell 1).toInt + (x0.cell 2).toInt))).toNat 64)))
          else
            J57_5 gate1 call k (x0.cell 0) (x0.cell 1) (x0.cell 2) (x0.cell 3) (x0.cell 4) (PV.int IntKind.i64 0) (PV.int IntKind.i64 0) ((resPV c0).cell 0) ((resPV c0).cell 1) ((resPV c0).cell 2) (PV.int IntKind.u64 (IntKind.u64.wrap (1 * 2 ^ min (IntKind.u64.wrap (IntKind.i64.wrap ((x0.cell 1).toInt + (x0.cell 2).toInt))).toNat 64))) (PV.int IntKind.u64 (IntKind.u64.wrap (1 * 2 ^ min (IntKind.u64.wrap (IntKind.i64.wrap ((x0.cell 1).toInt + (x0.cell 2).toInt))).toNat 64)))
      else
        J57_5 gate1 call k (x0.cell 0) (x0.cell 1) (x0.cell 2) (x0.cell 3) (x0.cell 4) (PV.int IntKind.i64 0) (PV.int IntKind.i64 0) ((resPV c0).cell 0) ((resPV c0).cell 1) ((resPV c0).cell 2) (PV.int IntKind.u64 (IntKind.u64.wrap (1 * 2 ^ min (IntKind.u64.wrap (IntKind.i64.wrap ((x0.cell 1).toInt + (x0.cell 2).toInt))).toNat 64))) (PV.int IntKind.u64 (IntKind.u64.wrap (1 * 2 ^ min (IntKind.u64.wrap (IntKind.i64.wrap ((x0.cell 1).toInt + (x0.cell 2).toInt))).toNat 64)))
  else
    none := by rw [evStep_eq]; kernel_rfl
theorem R60 (call : CallF) (k : Nat) (x0 : PV) : evStep Tryd.prog H0 call k 60 [AO.pv (Ty.int IntKind.i64) x0] =
  bif eqI (x0.toInt) (IntKind.i64.wrap (0 - x0.toInt)) then
    some ([AO.pv Ty.bool (PV.bool !eqI (x0.toInt) (0))], [])
  else
    some ([AO.pv Ty.bool (PV.bool false)], []) := by rw [evStep_eq]; kernel_rfl
def SJ63_12 (v0 v1 v2 v3 v4 v5 v6 v7 v8 v9 v10 v11 : PV) : St := [dd, dd, dd, AV.o (AO.box 51 [AO.pv Ty.bool v0, AO.pv (Ty.int IntKind.u64) v1, AO.pv (Ty.int IntKind.u64) v2]), dd, dd, AV.o (AO.box 71 [AO.pv Ty.bool v3, AO.pv (Ty.int IntKind.u64) v4, AO.pv (Ty.int IntKind.u64) v5]), AV.o (AO.pv (Ty.int IntKind.u64) v6), AV.o (AO.pv (Ty.int IntKind.u64) v7), dd, dd, dd, dd, dd, dd, dd, AV.o (AO.pv (Ty.int IntKind.u64) v8), AV.o (AO.pv (Ty.int IntKind.u64) v9), dd, dd, dd, dd, dd, dd, dd, dd, dd, dd, dd, dd, dd, dd, dd, dd, dd, dd, dd, dd, dd, dd, dd, dd, dd, dd, dd, AV.o (AO.pv (Ty.int IntKind.u64) v10), dd, dd, dd, AV.o (AO.pv (Ty.int IntKind.u64) v11), dd, dd, dd, dd, dd, dd, dd, dd, dd, dd, dd, dd, dd]
noncomputable def J63_12 (G : Gate) (call : CallF) (k : Nat) (v0 v1 v2 v3 v4 v5 v6 v7 v8 v9 v10 v11 : PV) : R := G 12 (regAt Tryd.prog call 63 [.b, .b, .b, .b, .b, .a]) (SJ63_12 v0 v1 v2 v3 v4 v5 v6 v7 v8 v9 v10 v11) (behind Tryd.prog H0 G call k 63 [.b, .b, .b, .b, .b, .a] .normal)
def SJ63_12s1 (v0 v1 v2 v3 v4 v5 v6 v7 v8 v9 : PV) : St := [dd, dd, dd, AV.o (AO.box 51 [AO.pv Ty.bool v0, AO.pv (Ty.int IntKind.u64) v1, AO.pv (Ty.int IntKind.u64) v2]), dd, dd, AV.o (AO.box 71 [AO.pv Ty.bool v3, AO.pv (Ty.int IntKind.u64) v4, AO.pv (Ty.int IntKind.u64) v5]), AV.o (AO.pv (Ty.int IntKind.u64) v6), AV.o (AO.pv (Ty.int IntKind.u64) v7), dd, dd, dd, dd, dd, dd, dd, AV.o (AO.pv (Ty.int IntKind.u64) v8), AV.o (AO.pv (Ty.int IntKind.u64) v9), dd, dd, dd, dd, dd, dd, dd, dd, dd, dd, dd, dd, dd, dd, dd, dd, dd, dd, dd, dd, dd, dd, dd, dd, dd, dd, dd, dd, dd, dd, dd, dd, dd, dd, dd, dd, dd, dd, dd, dd, dd, dd, dd, dd, dd]
noncomputable def J63_12s1 (G : Gate) (call : CallF) (k : Nat) (v0 v1 v2 v3 v4 v5 v6 v7 v8 v9 : PV) : R := G 12 (regAt Tryd.prog call 63 [.b, .b, .b, .b, .b, .a]) (SJ63_12s1 v0 v1 v2 v3 v4 v5 v6 v7 v8 v9) (behind Tryd.prog H0 G call k 63 [.b, .b, .b, .b, .b, .a] .normal)
def SJ63_8 (v0 v1 v2 v3 v4 v5 v6 v7 v8 v9 v10 v11 : PV) : St := [dd, dd, dd, AV.o (AO.box 51 [AO.pv Ty.bool v0, AO.pv (Ty.int IntKind.u64) v1, AO.pv (Ty.int IntKind.u64) v2]), dd, dd, AV.o (AO.box 71 [AO.pv Ty.bool v3, AO.pv (Ty.int IntKind.u64) v4, AO.pv (Ty.int IntKind.u64) v5]), AV.o (AO.pv (Ty.int IntKind.u64) v6), AV.o (AO.pv (Ty.int IntKind.u64) v7), dd, AV.o (AO.pv Ty.bool v8), dd, dd, dd, dd, dd, AV.o (AO.pv (Ty.int IntKind.u64) v9), AV.o (AO.pv (Ty.int IntKind.u64) v10), dd, dd, dd, dd, dd, dd, dd, dd, dd, AV.o (AO.pv Ty.bool v11), dd, dd, dd, dd, dd, dd, dd, dd, dd, dd, dd, dd, dd, dd, dd, dd, dd, dd, dd, dd, dd, dd, dd, dd, dd, dd, dd, dd, dd, dd, dd, dd, dd, dd, dd]
noncomputable def J63_8 (G : Gate) (call : CallF) (k : Nat) (v0 v1 v2 v3 v4 v5 v6 v7 v8 v9 v10 v11 : PV) : R := G 8 (regAt Tryd.prog call 63 [.b, .b, .b, .b, .a, .a]) (SJ63_8 v0 v1 v2 v3 v4 v5 v6 v7 v8 v9 v10 v11) (behind Tryd.prog H0 G call k 63 [.b, .b, .b, .b, .a, .a] .normal)
def SJ63_8s1 (v0 v1 v2 v3 v4 v5 v6 v7 v8 v9 v10 v11 : PV) : St := [dd, dd, dd, AV.o (AO.box 51 [AO.pv Ty.bool v0, AO.pv (Ty.int IntKind.u64) v1, AO.pv (Ty.int IntKind.u64) v2]), dd, dd, AV.o (AO.box 71 [AO.pv Ty.bool v3, AO.pv (Ty.int IntKind.u64) v4, AO.pv (Ty.int IntKind.u64) v5]), AV.o (AO.pv (Ty.int IntKind.u64) v6), AV.o (AO.pv (Ty.int IntKind.u64) v7), dd, AV.o (AO.pv Ty.bool v8), dd, dd, dd, dd, dd, AV.o (AO.pv (Ty.int IntKind.u64) v9), AV.o (AO.pv (Ty.int IntKind.u64) v10), dd, dd, dd, dd, dd, dd, dd, dd, dd, dd, dd, dd, dd, dd, dd, dd, dd, dd, dd, dd, dd, dd, AV.o (AO.pv Ty.bool v11), dd, dd, dd, dd, dd, dd, dd, dd, dd, dd, dd, dd, dd, dd, dd, dd, dd, dd, dd, dd, dd, dd]
noncomputable def J63_8s1 (G : Gate) (call : CallF) (k : Nat) (v0 v1 v2 v3 v4 v5 v6 v7 v8 v9 v10 v11 : PV) : R := G 8 (regAt Tryd.prog call 63 [.b, .b, .b, .b, .a, .a]) (SJ63_8s1 v0 v1 v2 v3 v4 v5 v6 v7 v8 v9 v10 v11) (behind Tryd.prog H0 G call k 63 [.b, .b, .b, .b, .a, .a] .normal)
def SJ63_8s2 (v0 v1 v2 v3 v4 v5 v6 v7 v8 v9 v10 : PV) : St := [dd, dd, dd, AV.o (AO.box 51 [AO.pv Ty.bool v0, AO.pv (Ty.int IntKind.u64) v1, AO.pv (Ty.int IntKind.u64) v2]), dd, dd, AV.o (AO.box 71 [AO.pv Ty.bool v3, AO.pv (Ty.int IntKind.u64) v4, AO.pv (Ty.int IntKind.u64) v5]), AV.o (AO.pv (Ty.int IntKind.u64) v6), AV.o (AO.pv (Ty.int IntKind.u64) v7), dd, AV.o (AO.pv Ty.bool v8), dd, dd, dd, dd, dd, AV.o (AO.pv (Ty.int IntKind.u64) v9), AV.o (AO.pv (Ty.int IntKind.u64) v10), dd, dd, dd, dd, dd, dd, dd, dd, dd, dd, dd, dd, dd, dd, dd, dd, dd, dd, dd, dd, dd, dd, dd, dd, dd, dd, dd, dd, dd, dd, dd, dd, dd, dd, dd, dd, dd, dd, dd, dd, dd, dd, dd, dd, dd]
noncomputable def J63_8s2 (G : Gate) (call : CallF) (k : Nat) (v0 v1 v2 v3 v4 v5 v6 v7 v8 v9 v10 : PV) : R := G 8 (regAt Tryd.prog call 63 [.b, .b, .b, .b, .a, .a]) (SJ63_8s2 v0 v1 v2 v3 v4 v5 v6 v7 v8 v9 v10) (behind Tryd.prog H0 G call k 63 [.b, .b, .b, .b, .a, .a] .normal)
theorem J63_12_eq (call : CallF) (k : Nat) (v0 v1 v2 v3 v4 v5 v6 v7 v8 v9 v10 v11 : PV) : J63_12 gate1 call k v0 v1 v2 v3 v4 v5 v6 v7 v8 v9 v10 v11 =
  bif v0.toBool then
    bif !eqI (v6.toInt) (0) then
      some ([AO.pv (Ty.st 71) (PV.agg [PV.bool true, v6, v7])], [])
    else
      some ([AO.pv (Ty.st 71) (PV.agg [PV.bool !eqI (v7.toInt) (0), v6, v7])], [])
  else
    some ([AO.pv (Ty.st 71) (PV.agg [PV.bool false, v6, v7])], []) := by rw [J63_12, gate1_app]; kernel_rfl
theorem J63_12s1_eq (call : CallF) (k : Nat) (v0 v1 v2 v3 v4 v5 v6 v7 v8 v9 : PV) : J63_12s1 gate1 call k v0 v1 v2 v3 v4 v5 v6 v7 v8 v9 =
  bif v0.toBool then
    bif !eqI (v6.toInt) (0) then
      some ([AO.pv (Ty.st 71) (PV.agg [PV.bool true, v6, v7])], [])
    else
      some ([AO.pv (Ty.st 71) (PV.agg [PV.bool !eqI (v7.toInt) (0), v6, v7])], [])
  else
    some ([AO.pv (Ty.st 71) (PV.agg [PV.bool false, v6, v7])], []) := by rw [J63_12s1, gate1_app]; kernel_rfl
theorem J63_8_eq (call : CallF) (k : Nat) (v0 v1 v2 v3 v4 v5 v6 v7 v8 v9 v10 v11 : PV) : J63_8 gate1 call k v0 v1 v2 v3 v4 v5 v6 v7 v8 v9 v10 v11 =
  bif v8.toBool then
    let c1 := call 72 [AO.pv (Ty.int IntKind.u64) v7, AO.pv (Ty.int IntKind.u64) (PV.int IntKind.u64 1), AO.pv (Ty.int IntKind.u64) (PV.int IntKind.u64 0)]
    bif !Nat.beq 2 1 && okMany (List.map (tyOf Tryd.prog) #[49, 49].toList) c1 then
      J63_12 gate1 call k (v0) (v1) (v2) (v3) (v4) (v5) (PV.int IntKind.u64 (IntKind.u64.wrap (v6.toInt + (resAt 1 c1).toInt))) (resAt 0 c1) (v9) (v10) (resAt 0 c1) (PV.int IntKind.u64 (IntKind.u64.wrap (v6.toInt + (resAt 1 c1).toInt)))
    else
      none
  else
    J63_12s1 gate1 call k (v0) (v1) (v2) (v3) (v4) (v5) (v6) (v7) (v9) (v10) := by rw [J63_8, gate1_app]; kernel_rfl
theorem J63_8s1_eq (call : CallF) (k : Nat) (v0 v1 v2 v3 v4 v5 v6 v7 v8 v9 v10 v11 : PV) : J63_8s1 gate1 call k v0 v1 v2 v3 v4 v5 v6 v7 v8 v9 v10 v11 =
  bif v8.toBool then
    let c2 := call 72 [AO.pv (Ty.int IntKind.u64) v7, AO.pv (Ty.int IntKind.u64) (PV.int IntKind.u64 1), AO.pv (Ty.int IntKind.u64) (PV.int IntKind.u64 0)]
    bif !Nat.beq 2 1 && okMany (List.map (tyOf Tryd.prog) #[49, 49].toList) c2 then
      J63_12 gate1 call k (v0) (v1) (v2) (v3) (v4) (v5) (PV.int IntKind.u64 (IntKind.u64.wrap (v6.toInt + (resAt 1 c2).toInt))) (resAt 0 c2) (v9) (v10) (resAt 0 c2) (PV.int IntKind.u64 (IntKind.u64.wrap (v6.toInt + (resAt 1 c2).toInt)))
    else
      none
  else
    J63_12s1 gate1 call k (v0) (v1) (v2) (v3) (v4) (v5) (v6) (v7) (v9) (v10) := by rw [J63_8s1, gate1_app]; kernel_rfl
theorem J63_8s2_eq (call : CallF) (k : Nat) (v0 v1 v2 v3 v4 v5 v6 v7 v8 v9 v10 : PV) : J63_8s2 gate1 call k v0 v1 v2 v3 v4 v5 v6 v7 v8 v9 v10 =
  bif v8.toBool then
    let c3 := call 72 [AO.pv (Ty.int IntKind.u64) v7, AO.pv (Ty.int IntKind.u64) (PV.int IntKind.u64 1), AO.pv (Ty.int IntKind.u64) (PV.int IntKind.u64 0)]
    bif !Nat.beq 2 1 && okMany (List.map (tyOf Tryd.prog) #[49, 49].toList) c3 then
      J63_12 gate1 call k (v0) (v1) (v2) (v3) (v4) (v5) (PV.int IntKind.u64 (IntKind.u64.wrap (v6.toInt + (resAt 1 c3).toInt))) (resAt 0 c3) (v9) (v10) (resAt 0 c3) (PV.int IntKind.u64 (IntKind.u64.wrap (v6.toInt + (resAt 1 c3).toInt)))
    else
      none
  else
    J63_12s1 gate1 call k (v0) (v1) (v2) (v3) (v4) (v5) (v6) (v7) (v9) (v10) := by rw [J63_8s2, gate1_app]; kernel_rfl
theorem R63 (call : CallF) (k : Nat) (x0 x1 x2 : PV) : evStep Tryd.prog H0 call k 63 [AO.pv (Ty.st 51) x0, AO.pv (Ty.int IntKind.i64) x1, AO.pv Ty.str x2] =
  let c0 := call 71 [AO.pv (Ty.st 51) (PV.agg [x0.cell 0, x0.cell 1, x0.cell 2]), AO.pv (Ty.int IntKind.i64) x1]
  bif !Nat.beq 3 1 && okMany (List.map (tyOf Tryd.prog) #[49, 49, 3].toList) c0 then
    bif x2.toStr.data.toList == (ByteArray.mk #[102, 108, 111, 111, 114]).data.toList then
      bif (x0.cell 0).toBool then
        J63_8 gate1 call k (x0.cell 0) (x0.cell 1) (x0.cell 2) (PV.bool false) (PV.int IntKind.u64 0) (PV.int IntKind.u64 0) (resAt 0 c0) (resAt 1 c0) (PV.bool (ltI (0) ((resAt 2 c0).toInt))) (resAt 0 c0) (resAt 1 c0) (PV.bool (ltI (0) ((resAt 2 c0).toInt)))
      else
        J63_8 gate1 call k (x0.cell 0) (x0.cell 1) (x0.cell 2) (PV.bool false) (PV.int IntKind.u64 0) (PV.int IntKind.u64 0) (resAt 0 c0) (resAt 1 c0) (PV.bool false) (resAt 0 c0) (resAt 1 c0) (PV.bool false)
    else
      bif x2.toStr.data.toList == (ByteArray.mk #[110, 101, 97, 114]).data.toList then
        bif eqI ((resAt 2 c0).toInt) (3) then
          J63_8s1 gate1 call k (x0.cell 0) (x0.cell 1) (x0.cell 2) (PV.bool false) (PV.int IntKind.u64 0) (PV.int IntKind.u64 0) (resAt 0 c0) (resAt 1 c0) (PV.bool true) (resAt 0 c0) (resAt 1 c0) (PV.bool true)
        else
          bif eqI ((resAt 2 c0).toInt) (2) then
            J63_8s1 gate1 call k (x0.cell 0) (x0.cell 1) (x0.cell 2) (PV.bool false) (PV.int IntKind.u64 0) (PV.int IntKind.u64 0) (resAt 0 c0) (resAt 1 c0) (PV.bool (eqI (IntKind.u64.wrap (Nat.cast (BitVec.ofInt 64 (resAt 1 c0).toInt &&& BitVec.ofInt 64 1).toNat : Int)) (1))) (resAt 0 c0) (resAt 1 c0) (PV.bool (eqI (IntKind.u64.wrap (Nat.cast (BitVec.ofInt 64 (resAt 1 c0).toInt &&& BitVec.ofInt 64 1).toNat : Int)) (1)))
          else
            J63_8s1 gate1 call k (x0.cell 0) (x0.cell 1) (x0.cell 2) (PV.bool false) (PV.int IntKind.u64 0) (PV.int IntKind.u64 0) (resAt 0 c0) (resAt 1 c0) (PV.bool false) (resAt 0 c0) (resAt 1 c0) (PV.bool false)
      else
        J63_8s2 gate1 call k (x0.cell 0) (x0.cell 1) (x0.cell 2) (PV.bool false) (PV.int IntKind.u64 0) (PV.int IntKind.u64 0) (resAt 0 c0) (resAt 1 c0) (PV.bool false) (resAt 0 c0) (resAt 1 c0)
  else
    none := by rw [evStep_eq]; kernel_rfl
def SJ64_3 (v0 v1 v2 : PV) : St := [dd, AV.o (AO.box 71 [AO.pv Ty.bool v0, AO.pv (Ty.int IntKind.u64) v1, AO.pv (Ty.int IntKind.u64) v2]), dd, dd, dd, dd, dd, dd, dd, dd, dd, dd]
noncomputable def J64_3 (G : Gate) (call : CallF) (k : Nat) (v0 v1 v2 : PV) : R := G 3 (regAt Tryd.prog call 64 [.b, .b, .a]) (SJ64_3 v0 v1 v2) (behind Tryd.prog H0 G call k 64 [.b, .b, .a] .normal)
theorem J64_3_eq (call : CallF) (k : Nat) (v0 v1 v2 : PV) : J64_3 gate1 call k v0 v1 v2 =
  some ([AO.pv (Ty.int IntKind.i64) (PV.int IntKind.i64 (IntKind.i64.wrap v2.toInt))], []) := by rw [J64_3, gate1_app]; kernel_rfl
theorem R64 (call : CallF) (k : Nat) (x0 : PV) : evStep Tryd.prog H0 call k 64 [AO.pv (Ty.st 71) x0] =
  bif (x0.cell 0).toBool then
    some ([AO.pv (Ty.int IntKind.i64) (PV.int IntKind.i64 (IntKind.i64.wrap (0 - IntKind.i64.wrap (x0.cell 2).toInt)))], [])
  else
    J64_3 gate1 call k (x0.cell 0) (x0.cell 1) (x0.cell 2) := by rw [evStep_eq]; kernel_rfl
def SJ71_9 (v0 v1 v2 v3 v4 v5 v6 v7 v8 v9 : PV) : St := [dd, dd, AV.o (AO.box 51 [AO.pv Ty.bool v0, AO.pv (Ty.int IntKind.u64) v1, AO.pv (Ty.int IntKind.u64) v2]), dd, dd, dd, dd, AV.o (AO.pv (Ty.int IntKind.u64) v3), AV.o (AO.pv (Ty.int IntKind.u64) v4), AV.o (AO.pv (Ty.int IntKind.u64) v5), dd, dd, AV.ptr 2 [] 1, AV.o (AO.pv (Ty.int IntKind.u64) v6), AV.ptr 2 [] 2, AV.o (AO.pv (Ty.int IntKind.u64) v7), dd, dd, dd, dd, dd, dd, dd, dd, AV.o (AO.pv (Ty.int IntKind.u64) v8), AV.o (AO.pv (Ty.int IntKind.u64) v9), dd, dd, dd, dd, dd, dd, dd, dd, dd, dd, dd, dd, dd, dd, dd, dd, dd, dd, dd, dd, dd, dd, dd, dd, dd, dd, dd, dd, dd, dd, dd, dd, dd, dd]
noncomputable def J71_9 (G : Gate) (call : CallF) (k : Nat) (v0 v1 v2 v3 v4 v5 v6 v7 v8 v9 : PV) : R := G 9 (regAt Tryd.prog call 71 [.b, .b, .b, .b, .b, .b, .a]) (SJ71_9 v0 v1 v2 v3 v4 v5 v6 v7 v8 v9) (behind Tryd.prog H0 G call k 71 [.b, .b, .b, .b, .b, .b, .a] .normal)
def SJ71_6 (v0 v1 v2 v3 v4 v5 v6 v7 v8 v9 v10 : PV) : St := [dd, dd, AV.o (AO.box 51 [AO.pv Ty.bool v0, AO.pv (Ty.int IntKind.u64) v1, AO.pv (Ty.int IntKind.u64) v2]), dd, dd, dd, dd, AV.o (AO.pv (Ty.int IntKind.u64) v3), AV.o (AO.pv (Ty.int IntKind.u64) v4), AV.o (AO.pv (Ty.int IntKind.u64) v5), AV.o (AO.pv (Ty.int IntKind.u64) v6), dd, AV.ptr 2 [] 1, AV.o (AO.pv (Ty.int IntKind.u64) v7), AV.ptr 2 [] 2, AV.o (AO.pv (Ty.int IntKind.u64) v8), dd, dd, dd, dd, dd, dd, dd, dd, AV.o (AO.pv (Ty.int IntKind.u64) v9), AV.o (AO.pv (Ty.int IntKind.u64) v10), dd, dd, dd, dd, dd, dd, dd, dd, dd, dd, dd, dd, dd, dd, dd, dd, dd, dd, dd, dd, dd, dd, dd, dd, dd, dd, dd, dd, dd, dd, dd, dd, dd, dd]
noncomputable def J71_6 (G : Gate) (call : CallF) (k : Nat) (v0 v1 v2 v3 v4 v5 v6 v7 v8 v9 v10 : PV) : R := G 6 (regAt Tryd.prog call 71 [.b, .b, .b, .b, .a]) (SJ71_6 v0 v1 v2 v3 v4 v5 v6 v7 v8 v9 v10) (behind Tryd.prog H0 G call k 71 [.b, .b, .b, .b, .a] .normal)
def SJ71_9s1 (v0 v1 v2 v3 v4 v5 v6 v7 v8 : PV) : St := [dd, dd, AV.o (AO.box 51 [AO.pv Ty.bool v0, AO.pv (Ty.int IntKind.u64) v1, AO.pv (Ty.int IntKind.u64) v2]), dd, dd, dd, dd, AV.o (AO.pv (Ty.int IntKind.u64) v3), AV.o (AO.pv (Ty.int IntKind.u64) v4), AV.o (AO.pv (Ty.int IntKind.u64) v5), dd, dd, AV.ptr 2 [] 1, AV.o (AO.pv (Ty.int IntKind.u64) v6), AV.ptr 2 [] 2, AV.o (AO.pv (Ty.int IntKind.u64) v7), dd, dd, dd, dd, dd, dd, dd, dd, dd, dd, dd, dd, dd, dd, dd, dd, dd, dd, AV.o (AO.pv (Ty.int IntKind.u64) v8), dd, dd, dd, dd, dd, dd, dd, dd, dd, dd, dd, dd, dd, dd, dd, dd, dd, dd, dd, dd, dd, dd, dd, dd, dd]
noncomputable def J71_9s1 (G : Gate) (call : CallF) (k : Nat) (v0 v1 v2 v3 v4 v5 v6 v7 v8 : PV) : R := G 9 (regAt Tryd.prog call 71 [.b, .b, .b, .b, .b, .b, .a]) (SJ71_9s1 v0 v1 v2 v3 v4 v5 v6 v7 v8) (behind Tryd.prog H0 G call k 71 [.b, .b, .b, .b, .b, .b, .a] .normal)
def SJ71_6s1 (v0 v1 v2 v3 v4 v5 v6 v7 v8 v9 v10 : PV) : St := [dd, dd, AV.o (AO.box 51 [AO.pv Ty.bool v0, AO.pv (Ty.int IntKind.u64) v1, AO.pv (Ty.int IntKind.u64) v2]), dd, dd, dd, dd, AV.o (AO.pv (Ty.int IntKind.u64) v3), AV.o (AO.pv (Ty.int IntKind.u64) v4), AV.o (AO.pv (Ty.int IntKind.u64) v5), AV.o (AO.pv (Ty.int IntKind.u64) v6), dd, AV.ptr 2 [] 1, AV.o (AO.pv (Ty.int IntKind.u64) v7), AV.ptr 2 [] 2, AV.o (AO.pv (Ty.int IntKind.u64) v8), dd, dd, dd, dd, dd, dd, dd, dd, dd, dd, dd, dd, dd, dd, dd, dd, dd, AV.o (AO.pv (Ty.int IntKind.u64) v9), AV.o (AO.pv (Ty.int IntKind.u64) v10), dd, dd, dd, dd, dd, dd, dd, dd, dd, dd, dd, dd, dd, dd, dd, dd, dd, dd, dd, dd, dd, dd, dd, dd, dd]
noncomputable def J71_6s1 (G : Gate) (call : CallF) (k : Nat) (v0 v1 v2 v3 v4 v5 v6 v7 v8 v9 v10 : PV) : R := G 6 (regAt Tryd.prog call 71 [.b, .b, .b, .b, .a]) (SJ71_6s1 v0 v1 v2 v3 v4 v5 v6 v7 v8 v9 v10) (behind Tryd.prog H0 G call k 71 [.b, .b, .b, .b, .a] .normal)
theorem J71_9_eq (call : CallF) (k : Nat) (v0 v1 v2 v3 v4 v5 v6 v7 v8 v9 : PV) : J71_9 gate1 call k v0 v1 v2 v3 v4 v5 v6 v7 v8 v9 =
  bif eqI (v5.toInt) (0) then
    none
  else
    bif eqI (v5.toInt) (0) then
      none
    else
      let c2 := call 78 [AO.pv (Ty.int IntKind.u64) (PV.int IntKind.u64 (v3.toInt.tmod v5.toInt)), AO.pv (Ty.int IntKind.u64) v4, AO.pv (Ty.int IntKind.u64) v5]
      bif !Nat.beq 2 1 && okMany (List.map (tyOf Tryd.prog) #[49, 49].toList) c2 then
        let c3 := call 77 [AO.pv (Ty.int IntKind.u64) (PV.int IntKind.u64 0), AO.pv (Ty.int IntKind.u64) (resAt 1 c2), AO.pv (Ty.int IntKind.u64) (PV.int IntKind.u64 0), AO.pv (Ty.int IntKind.u64) v5]
        bif okRes (Ty.int IntKind.i64) c3 then
          some ([AO.pv (Ty.int IntKind.u64) (PV.int IntKind.u64 (IntKind.u64.wrap (v3.toInt.tdiv v5.toInt))), AO.pv (Ty.int IntKind.u64) (resAt 0 c2), AO.pv (Ty.int IntKind.i64) (resPV c3)], [])
        else
          none
      else
        none := by rw [J71_9, gate1_app]; kernel_rfl
theorem J71_6_eq (call : CallF) (k : Nat) (v0 v1 v2 v3 v4 v5 v6 v7 v8 v9 v10 : PV) : J71_6 gate1 call k v0 v1 v2 v3 v4 v5 v6 v7 v8 v9 v10 =
  bif !eqI (v6.toInt) (0) then
    let c1 := call 77 [AO.pv (Ty.int IntKind.u64) (PV.int IntKind.u64 0), AO.pv (Ty.int IntKind.u64) v4, AO.pv (Ty.int IntKind.u64) v6, AO.pv (Ty.int IntKind.u64) v5]
    bif okRes (Ty.int IntKind.i64) c1 then
      some ([AO.pv (Ty.int IntKind.u64) (PV.int IntKind.u64 0), AO.pv (Ty.int IntKind.u64) (PV.int IntKind.u64 0), AO.pv (Ty.int IntKind.i64) (resPV c1)], [])
    else
      none
  else
    J71_9 gate1 call k (v0) (v1) (v2) (v3) (v4) (v5) (v7) (v8) (v9) (v10) := by rw [J71_6, gate1_app]; kernel_rfl
theorem J71_9s1_eq (call : CallF) (k : Nat) (v0 v1 v2 v3 v4 v5 v6 v7 v8 : PV) : J71_9s1 gate1 call k v0 v1 v2 v3 v4 v5 v6 v7 v8 =
  bif eqI (v5.toInt) (0) then
    none
  else
    bif eqI (v5.toInt) (0) then
      none
    else
      let c6 := call 78 [AO.pv (Ty.int IntKind.u64) (PV.int IntKind.u64 (v3.toInt.tmod v5.toInt)), AO.pv (Ty.int IntKind.u64) v4, AO.pv (Ty.int IntKind.u64) v5]
      bif !Nat.beq 2 1 && okMany (List.map (tyOf Tryd.prog) #[49, 49].toList) c6 then
        let c7 := call 77 [AO.pv (Ty.int IntKind.u64) (PV.int IntKind.u64 0), AO.pv (Ty.int IntKind.u64) (resAt 1 c6), AO.pv (Ty.int IntKind.u64) (PV.int IntKind.u64 0), AO.pv (Ty.int IntKind.u64) v5]
        bif okRes (Ty.int IntKind.i64) c7 then
          some ([AO.pv (Ty.int IntKind.u64) (PV.int IntKind.u64 (IntKind.u64.wrap (v3.toInt.tdiv v5.toInt))), AO.pv (Ty.int IntKind.u64) (resAt 0 c6), AO.pv (Ty.int IntKind.i64) (resPV c7)], [])
        else
          none
      else
        none := by rw [J71_9s1, gate1_app]; kernel_rfl
theorem J71_6s1_eq (call : CallF) (k : Nat) (v0 v1 v2 v3 v4 v5 v6 v7 v8 v9 v10 : PV) : J71_6s1 gate1 call k v0 v1 v2 v3 v4 v5 v6 v7 v8 v9 v10 =
  bif !eqI (v6.toInt) (0) then
    let c5 := call 77 [AO.pv (Ty.int IntKind.u64) (PV.int IntKind.u64 0), AO.pv (Ty.int IntKind.u64) v4, AO.pv (Ty.int IntKind.u64) v6, AO.pv (Ty.int IntKind.u64) v5]
    bif okRes (Ty.int IntKind.i64) c5 then
      some ([AO.pv (Ty.int IntKind.u64) (PV.int IntKind.u64 0), AO.pv (Ty.int IntKind.u64) (PV.int IntKind.u64 0), AO.pv (Ty.int IntKind.i64) (resPV c5)], [])
    else
      none
  else
    J71_9s1 gate1 call k (v0) (v1) (v2) (v3) (v4) (v5) (v7) (v8) (v10) := by rw [J71_6s1, gate1_app]; kernel_rfl
theorem R71 (call : CallF) (k : Nat) (x0 x1 : PV) : evStep Tryd.prog H0 call k 71 [AO.pv (Ty.st 51) x0, AO.pv (Ty.int IntKind.i64) x1] =
  bif leI (0) (x1.toInt) then
    bif ltI (IntKind.u64.wrap x1.toInt) (0) then
      none
    else
      let c0 := call 73 [AO.pv (Ty.int IntKind.u64) (x0.cell 1), AO.pv (Ty.int IntKind.u64) (PV.int IntKind.u64 (IntKind.u64.wrap (1 * 2 ^ min (IntKind.u64.wrap x1.toInt).toNat 64)))]
      bif !Nat.beq 2 1 && okMany (List.map (tyOf Tryd.prog) #[49, 49].toList) c0 then
        J71_6 gate1 call k (x0.cell 0) (x0.cell 1) (x0.cell 2) (resAt 0 c0) (resAt 1 c0) (x0.cell 2) (PV.int IntKind.u64 0) (x0.cell 1) (x0.cell 2) (resAt 0 c0) (resAt 1 c0)
      else
        none
  else
    bif ltI (IntKind.u64.wrap (IntKind.i64.wrap (0 - x1.toInt))) (0) then
      none
    else
      let c4 := call 73 [AO.pv (Ty.int IntKind.u64) (x0.cell 2), AO.pv (Ty.int IntKind.u64) (PV.int IntKind.u64 (IntKind.u64.wrap (1 * 2 ^ min (IntKind.u64.wrap (IntKind.i64.wrap (0 - x1.toInt))).toNat 64)))]
      bif !Nat.beq 2 1 && okMany (List.map (tyOf Tryd.prog) #[49, 49].toList) c4 then
        J71_6s1 gate1 call k (x0.cell 0) (x0.cell 1) (x0.cell 2) (PV.int IntKind.u64 0) (x0.cell 1) (resAt 1 c4) (resAt 0 c4) (x0.cell 1) (x0.cell 2) (resAt 0 c4) (resAt 1 c4)
      else
        none := by rw [evStep_eq]; kernel_rfl
theorem R73 (call : CallF) (k : Nat) (x0 x1 : PV) : evStep Tryd.prog H0 call k 73 [AO.pv (Ty.int IntKind.u64) x0, AO.pv (Ty.int IntKind.u64) x1] =
  some ([AO.pv (Ty.int IntKind.u64)
  (PV.int IntKind.u64
    (IntKind.u64.wrap
      (IntKind.u64.wrap (IntKind.u64.wrap (x0.toInt.fdiv (2 ^ 32) * x1.toInt.fdiv (2 ^ 32)) + (IntKind.u64.wrap (IntKind.u64.wrap (x0.toInt.fdiv (2 ^ 32) * IntKind.u64.wrap (Nat.cast (BitVec.ofInt 64 x1.toInt &&& BitVec.ofInt 64 4294967295).toNat : Int)) + (IntKind.u64.wrap (IntKind.u64.wrap (Nat.cast (BitVec.ofInt 64 x0.toInt &&& BitVec.ofInt 64 4294967295).toNat : Int) * IntKind.u64.wrap (Nat.cast (BitVec.ofInt 64 x1.toInt &&& BitVec.ofInt 64 4294967295).toNat : Int))).fdiv (2 ^ 32))).fdiv (2 ^ 32)) +
        (IntKind.u64.wrap (IntKind.u64.wrap (Nat.cast (BitVec.ofInt 64 (IntKind.u64.wrap (IntKind.u64.wrap (x0.toInt.fdiv (2 ^ 32) * IntKind.u64.wrap (Nat.cast (BitVec.ofInt 64 x1.toInt &&& BitVec.ofInt 64 4294967295).toNat : Int)) + (IntKind.u64.wrap (IntKind.u64.wrap (Nat.cast (BitVec.ofInt 64 x0.toInt &&& BitVec.ofInt 64 4294967295).toNat : Int) * IntKind.u64.wrap (Nat.cast (BitVec.ofInt 64 x1.toInt &&& BitVec.ofInt 64 4294967295).toNat : Int))).fdiv (2 ^ 32))) &&& BitVec.ofInt 64 4294967295).toNat : Int) + IntKind.u64.wrap (IntKind.u64.wrap (Nat.cast (BitVec.ofInt 64 x0.toInt &&& BitVec.ofInt 64 4294967295).toNat : Int) * x1.toInt.fdiv (2 ^ 32)))).fdiv (2 ^ 32)))), AO.pv (Ty.int IntKind.u64) (PV.int IntKind.u64 (IntKind.u64.wrap (x0.toInt * x1.toInt)))], []) := by rw [evStep_eq]; kernel_rfl
def SJ77_2 (v0 v1 v2 v3 v4 : PV) : St := [AV.o (AO.pv (Ty.int IntKind.u64) v0), AV.o (AO.pv (Ty.int IntKind.u64) v1), AV.o (AO.pv (Ty.int IntKind.u64) v2), AV.o (AO.pv (Ty.int IntKind.u64) v3), dd, dd, dd, dd, dd, dd, dd, dd, dd, dd, dd, dd, AV.o (AO.pv Ty.bool v4), dd, dd, dd, dd, dd, dd, dd, dd, dd, dd, dd, dd, dd, dd, dd, dd, dd, dd, dd, dd, dd, dd, dd, dd, dd, dd, dd, dd, dd, dd]
noncomputable def J77_2 (G : Gate) (call : CallF) (k : Nat) (v0 v1 v2 v3 v4 : PV) : R := G 2 (regAt Tryd.prog call 77 [.b, .a, .b, .x, .a]) (SJ77_2 v0 v1 v2 v3 v4) (behind Tryd.prog H0 G call k 77 [.b, .a, .b, .x, .a] .normal)
def SJ77_5 (v0 v1 v2 v3 v4 v5 v6 v7 : PV) : St := [dd, dd, AV.o (AO.pv (Ty.int IntKind.u64) v0), AV.o (AO.pv (Ty.int IntKind.u64) v1), dd, dd, dd, dd, dd, AV.o (AO.pv (Ty.int IntKind.u64) v2), AV.o (AO.pv (Ty.int IntKind.u64) v3), dd, dd, dd, dd, dd, dd, dd, dd, dd, dd, AV.o (AO.pv (Ty.int IntKind.u64) v4), dd, AV.o (AO.pv (Ty.int IntKind.u64) v5), AV.o (AO.pv Ty.bool v6), dd, dd, dd, dd, dd, dd, dd, dd, dd, dd, dd, dd, AV.o (AO.pv Ty.bool v7), dd, dd, dd, dd, dd, dd, dd, dd, dd]
noncomputable def J77_5 (G : Gate) (call : CallF) (k : Nat) (v0 v1 v2 v3 v4 v5 v6 v7 : PV) : R := G 5 (regAt Tryd.prog call 77 [.b, .b, .b, .a, .blk, .b, .x, .a]) (SJ77_5 v0 v1 v2 v3 v4 v5 v6 v7) (behind Tryd.prog H0 G call k 77 [.b, .b, .b, .a, .blk, .b, .x, .a] .normal)
def SJ77_7 (v0 v1 : PV) : St := [dd, dd, dd, dd, dd, dd, dd, dd, dd, dd, dd, dd, dd, dd, dd, dd, dd, dd, dd, dd, dd, dd, dd, dd, dd, dd, dd, dd, dd, dd, dd, dd, dd, dd, dd, dd, dd, dd, AV.o (AO.pv Ty.bool v0), dd, dd, dd, dd, dd, dd, dd, AV.o (AO.pv Ty.bool v1)]
noncomputable def J77_7 (G : Gate) (call : CallF) (k : Nat) (v0 v1 : PV) : R := G 7 (regAt Tryd.prog call 77 [.b, .b, .b, .a, .blk, .b, .y, .b, .x, .a]) (SJ77_7 v0 v1) (behind Tryd.prog H0 G call k 77 [.b, .b, .b, .a, .blk, .b, .y, .b, .x, .a] .normal)
def SJ77_8  : St := [dd, dd, dd, dd, dd, dd, dd, dd, dd, dd, dd, dd, dd, dd, dd, dd, dd, dd, dd, dd, dd, dd, dd, dd, dd, dd, dd, dd, dd, dd, dd, dd, dd, dd, dd, dd, dd, dd, dd, dd, dd, dd, dd, dd, dd, dd, dd]
noncomputable def J77_8 (G : Gate) (call : CallF) (k : Nat)  : R := G 8 (regAt Tryd.prog call 77 [.b, .b, .b, .b, .a]) (SJ77_8 ) (behind Tryd.prog H0 G call k 77 [.b, .b, .b, .b, .a] .normal)
def SJ77_3 (v0 v1 v2 v3 : PV) : St := [AV.o (AO.pv (Ty.int IntKind.u64) v0), AV.o (AO.pv (Ty.int IntKind.u64) v1), AV.o (AO.pv (Ty.int IntKind.u64) v2), AV.o (AO.pv (Ty.int IntKind.u64) v3), dd, dd, dd, dd, dd, dd, dd, dd, dd, dd, dd, dd, dd, dd, dd, dd, dd, dd, dd, dd, dd, dd, dd, dd, dd, dd, dd, dd, dd, dd, dd, dd, dd, dd, dd, dd, dd, dd, dd, dd, dd, dd, dd]
noncomputable def J77_3 (G : Gate) (call : CallF) (k : Nat) (v0 v1 v2 v3 : PV) : R := G 3 (regAt Tryd.prog call 77 [.b, .b, .a]) (SJ77_3 v0 v1 v2 v3) (behind Tryd.prog H0 G call k 77 [.b, .b, .a] .normal)
theorem J77_2_eq (call : CallF) (k : Nat) (v0 v1 v2 v3 v4 : PV) : J77_2 gate1 call k v0 v1 v2 v3 v4 =
  some ([AO.pv (Ty.int IntKind.i64) (PV.int IntKind.i64 0)], []) := by rw [J77_2, gate1_app]; kernel_rfl
theorem J77_5_eq (call : CallF) (k : Nat) (v0 v1 v2 v3 v4 v5 v6 v7 : PV) : J77_5 gate1 call k v0 v1 v2 v3 v4 v5 v6 v7 =
  some ([AO.pv (Ty.int IntKind.i64) (PV.int IntKind.i64 1)], []) := by rw [J77_5, gate1_app]; kernel_rfl
theorem J77_7_eq (call : CallF) (k : Nat) (v0 v1 : PV) : J77_7 gate1 call k v0 v1 =
  some ([AO.pv (Ty.int IntKind.i64) (PV.int IntKind.i64 2)], []) := by rw [J77_7, gate1_app]; kernel_rfl
theorem J77_8_eq (call : CallF) (k : Nat)  : J77_8 gate1 call k  =
  some ([AO.pv (Ty.int IntKind.i64) (PV.int IntKind.i64 3)], []) := by rw [J77_8, gate1_app]; kernel_rfl
theorem J77_3_eq (call : CallF) (k : Nat) (v0 v1 v2 v3 : PV) : J77_3 gate1 call k v0 v1 v2 v3 =
  bif ltI (IntKind.u64.wrap (Nat.cast (BitVec.ofInt 64 (IntKind.u64.wrap (v0.toInt * 2 ^ 1)) ||| BitVec.ofInt 64 (v1.toInt.fdiv (2 ^ 63))).toNat : Int)) (v2.toInt) then
    J77_5 gate1 call k (v2) (v3) (PV.int IntKind.u64 (IntKind.u64.wrap (Nat.cast (BitVec.ofInt 64 (IntKind.u64.wrap (v0.toInt * 2 ^ 1)) ||| BitVec.ofInt 64 (v1.toInt.fdiv (2 ^ 63))).toNat : Int))) (PV.int IntKind.u64 (IntKind.u64.wrap (v1.toInt * 2 ^ 1))) (PV.int IntKind.u64 (IntKind.u64.wrap (Nat.cast (BitVec.ofInt 64 (IntKind.u64.wrap (v0.toInt * 2 ^ 1)) ||| BitVec.ofInt 64 (v1.toInt.fdiv (2 ^ 63))).toNat : Int))) (PV.int IntKind.u64 (IntKind.u64.wrap (v1.toInt * 2 ^ 1))) (PV.bool true) (PV.bool true)
  else
    bif eqI (IntKind.u64.wrap (Nat.cast (BitVec.ofInt 64 (IntKind.u64.wrap (v0.toInt * 2 ^ 1)) ||| BitVec.ofInt 64 (v1.toInt.fdiv (2 ^ 63))).toNat : Int)) (v2.toInt) then
      bif ltI (IntKind.u64.wrap (v1.toInt * 2 ^ 1)) (v3.toInt) then
        J77_5 gate1 call k (v2) (v3) (PV.int IntKind.u64 (IntKind.u64.wrap (Nat.cast (BitVec.ofInt 64 (IntKind.u64.wrap (v0.toInt * 2 ^ 1)) ||| BitVec.ofInt 64 (v1.toInt.fdiv (2 ^ 63))).toNat : Int))) (PV.int IntKind.u64 (IntKind.u64.wrap (v1.toInt * 2 ^ 1))) (PV.int IntKind.u64 (IntKind.u64.wrap (Nat.cast (BitVec.ofInt 64 (IntKind.u64.wrap (v0.toInt * 2 ^ 1)) ||| BitVec.ofInt 64 (v1.toInt.fdiv (2 ^ 63))).toNat : Int))) (PV.int IntKind.u64 (IntKind.u64.wrap (v1.toInt * 2 ^ 1))) (PV.bool true) (PV.bool (ltI (IntKind.u64.wrap (v1.toInt * 2 ^ 1)) (v3.toInt)))
      else
        bif eqI (IntKind.u64.wrap (Nat.cast (BitVec.ofInt 64 (IntKind.u64.wrap (v0.toInt * 2 ^ 1)) ||| BitVec.ofInt 64 (v1.toInt.fdiv (2 ^ 63))).toNat : Int)) (v2.toInt) then
          bif eqI (IntKind.u64.wrap (v1.toInt * 2 ^ 1)) (v3.toInt) then
            J77_7 gate1 call k (PV.bool true) (PV.bool (eqI (IntKind.u64.wrap (v1.toInt * 2 ^ 1)) (v3.toInt)))
          else
            J77_8 gate1 call k 
        else
          J77_8 gate1 call k 
    else
      bif eqI (IntKind.u64.wrap (Nat.cast (BitVec.ofInt 64 (IntKind.u64.wrap (v0.toInt * 2 ^ 1)) ||| BitVec.ofInt 64 (v1.toInt.fdiv (2 ^ 63))).toNat : Int)) (v2.toInt) then
        bif eqI (IntKind.u64.wrap (v1.toInt * 2 ^ 1)) (v3.toInt) then
          J77_7 gate1 call k (PV.bool true) (PV.bool (eqI (IntKind.u64.wrap (v1.toInt * 2 ^ 1)) (v3.toInt)))
        else
          J77_8 gate1 call k 
      else
        J77_8 gate1 call k  := by rw [J77_3, gate1_app]; kernel_rfl
theorem R77 (call : CallF) (k : Nat) (x0 x1 x2 x3 : PV) : evStep Tryd.prog H0 call k 77 [AO.pv (Ty.int IntKind.u64) x0, AO.pv (Ty.int IntKind.u64) x1, AO.pv (Ty.int IntKind.u64) x2, AO.pv (Ty.int IntKind.u64) x3] =
  bif eqI (x0.toInt) (0) then
    bif eqI (x1.toInt) (0) then
      J77_2 gate1 call k (x0) (x1) (x2) (x3) (PV.bool true)
    else
      J77_3 gate1 call k (x0) (x1) (x2) (x3)
  else
    J77_3 gate1 call k (x0) (x1) (x2) (x3) := by rw [evStep_eq]; kernel_rfl
def SJ78_28 (v0 v1 v2 v3 v4 v5 v6 : PV) : St := [dd, dd, AV.o (AO.pv (Ty.int IntKind.u64) v0), dd, dd, dd, dd, dd, AV.o (AO.pv (Ty.int IntKind.u64) v1), dd, dd, dd, dd, dd, AV.o (AO.pv (Ty.int IntKind.u64) v2), AV.o (AO.pv (Ty.int IntKind.u64) v3), dd, AV.o (AO.pv (Ty.int IntKind.u64) v4), AV.o (AO.pv (Ty.int IntKind.u64) v5), dd, dd, dd, dd, dd, dd, dd, dd, dd, dd, dd, dd, dd, dd, dd, dd, dd, dd, dd, dd, dd, dd, dd, dd, dd, dd, dd, dd, dd, dd, dd, dd, dd, dd, dd, dd, dd, dd, dd, dd, dd, dd, dd, dd, dd, dd, dd, dd, dd, dd, dd, dd, dd, dd, dd, dd, dd, dd, dd, dd, dd, dd, dd, dd, dd, dd, dd, dd, dd, dd, dd, dd, dd, dd, dd, dd, dd, dd, dd, dd, dd, dd, dd, dd, dd, dd, dd, dd, dd, dd, dd, dd, dd, dd, dd, dd, AV.o (AO.pv (Ty.int IntKind.u64) v6), dd, dd, dd, dd, dd, dd, dd, dd, dd, dd, dd, dd, dd, dd, dd, dd, dd, dd, dd]
noncomputable def J78_28 (G : Gate) (call : CallF) (k : Nat) (v0 v1 v2 v3 v4 v5 v6 : PV) : R := G 28 (regAt Tryd.prog call 78 [.b, .b, .b, .b, .b, .b, .b, .b, .b, .b, .b, .b, .b, .b, .b, .b, .b, .b, .b, .a]) (SJ78_28 v0 v1 v2 v3 v4 v5 v6) (behind Tryd.prog H0 G call k 78 [.b, .b, .b, .b, .b, .b, .b, .b, .b, .b, .b, .b, .b, .b, .b, .b, .b, .b, .b, .a] .normal)
def SJ78_25 (v0 v1 v2 v3 v4 v5 v6 v7 v8 : PV) : St := [dd, dd, AV.o (AO.pv (Ty.int IntKind.u64) v0), dd, dd, dd, dd, dd, AV.o (AO.pv (Ty.int IntKind.u64) v1), AV.o (AO.pv (Ty.int IntKind.u64) v2), AV.o (AO.pv (Ty.int IntKind.u64) v3), dd, dd, dd, AV.o (AO.pv (Ty.int IntKind.u64) v4), AV.o (AO.pv (Ty.int IntKind.u64) v5), AV.o (AO.pv (Ty.int IntKind.u64) v6), AV.o (AO.pv (Ty.int IntKind.u64) v7), AV.o (AO.pv (Ty.int IntKind.u64) v8), dd, dd, dd, dd, dd, dd, dd, dd, dd, dd, dd, dd, dd, dd, dd, dd, dd, dd, dd, dd, dd, dd, dd, dd, dd, dd, dd, dd, dd, dd, dd, dd, dd, dd, dd, dd, dd, dd, dd, dd, dd, dd, dd, dd, dd, dd, dd, dd, dd, dd, dd, dd, dd, dd, dd, dd, dd, dd, dd, dd, dd, dd, dd, dd, dd, dd, dd, dd, dd, dd, dd, dd, dd, dd, dd, dd, dd, dd, dd, dd, dd, dd, dd, dd, dd, dd, dd, dd, dd, dd, dd, dd, dd, dd, dd, dd, dd, dd, dd, dd, dd, dd, dd, dd, dd, dd, dd, dd, dd, dd, dd, dd, dd, dd, dd, dd]
noncomputable def J78_25 (G : Gate) (call : CallF) (k n : Nat) (v0 v1 v2 v3 v4 v5 v6 v7 v8 : PV) : R := G 25 (regAt Tryd.prog call 78 [.b, .b, .b, .b, .b, .b, .b, .b, .b, .b, .b, .b, .b, .b, .b, .b, .b, .b, .a, .blk, .lp n, .b, .blk, .a]) (SJ78_25 v0 v1 v2 v3 v4 v5 v6 v7 v8) (behind Tryd.prog H0 G call k 78 [.b, .b, .b, .b, .b, .b, .b, .b, .b, .b, .b, .b, .b, .b, .b, .b, .b, .b, .a, .blk, .lp n, .b, .blk, .a] .normal)
def SJ78_28s1 (v0 v1 v2 v3 v4 v5 : PV) : St := [dd, dd, AV.o (AO.pv (Ty.int IntKind.u64) v0), dd, dd, dd, dd, dd, AV.o (AO.pv (Ty.int IntKind.u64) v1), dd, dd, dd, dd, dd, AV.o (AO.pv (Ty.int IntKind.u64) v2), AV.o (AO.pv (Ty.int IntKind.u64) v3), dd, AV.o (AO.pv (Ty.int IntKind.u64) v4), AV.o (AO.pv (Ty.int IntKind.u64) v5), dd, dd, dd, dd, dd, dd, dd, dd, dd, dd, dd, dd, dd, dd, dd, dd, dd, dd, dd, dd, dd, dd, dd, dd, dd, dd, dd, dd, dd, dd, dd, dd, dd, dd, dd, dd, dd, dd, dd, dd, dd, dd, dd, dd, dd, dd, dd, dd, dd, dd, dd, dd, dd, dd, dd, dd, dd, dd, dd, dd, dd, dd, dd, dd, dd, dd, dd, dd, dd, dd, dd, dd, dd, dd, dd, dd, dd, dd, dd, dd, dd, dd, dd, dd, dd, dd, dd, dd, dd, dd, dd, dd, dd, dd, dd, dd, dd, dd, dd, dd, dd, dd, dd, dd, dd, dd, dd, dd, dd, dd, dd, dd, dd, dd, dd, dd]
noncomputable def J78_28s1 (G : Gate) (call : CallF) (k : Nat) (v0 v1 v2 v3 v4 v5 : PV) : R := G 28 (regAt Tryd.prog call 78 [.b, .b, .b, .b, .b, .b, .b, .b, .b, .b, .b, .b, .b, .b, .b, .b, .b, .b, .b, .a]) (SJ78_28s1 v0 v1 v2 v3 v4 v5) (behind Tryd.prog H0 G call k 78 [.b, .b, .b, .b, .b, .b, .b, .b, .b, .b, .b, .b, .b, .b, .b, .b, .b, .b, .b, .a] .normal)
def S78_24 (v0 v1 v2 v3 v4 v5 v6 v7 v8 : PV) : St := [dd, dd, AV.o (AO.pv (Ty.int IntKind.u64) v0), dd, dd, dd, dd, dd, AV.o (AO.pv (Ty.int IntKind.u64) v1), AV.o (AO.pv (Ty.int IntKind.u64) v2), AV.o (AO.pv (Ty.int IntKind.u64) v3), dd, dd, dd, AV.o (AO.pv (Ty.int IntKind.u64) v4), AV.o (AO.pv (Ty.int IntKind.u64) v5), AV.o (AO.pv (Ty.int IntKind.u64) v6), AV.o (AO.pv (Ty.int IntKind.u64) v7), AV.o (AO.pv (Ty.int IntKind.u64) v8), dd, dd, dd, dd, dd, dd, dd, dd, dd, dd, dd, dd, dd, dd, dd, dd, dd, dd, dd, dd, dd, dd, dd, dd, dd, dd, dd, dd, dd, dd, dd, dd, dd, dd, dd, dd, dd, dd, dd, dd, dd, dd, dd, dd, dd, dd, dd, dd, dd, dd, dd, dd, dd, dd, dd, dd, dd, dd, dd, dd, dd, dd, dd, dd, dd, dd, dd, dd, dd, dd, dd, dd, dd, dd, dd, dd, dd, dd, dd, dd, dd, dd, dd, dd, dd, dd, dd, dd, dd, dd, dd, dd, dd, dd, dd, dd, dd, dd, dd, dd, dd, dd, dd, dd, dd, dd, dd, dd, dd, dd, dd, dd, dd, dd, dd, dd]
noncomputable def L78_24 (G : Gate) (call : CallF) (k n : Nat) (v0 v1 v2 v3 v4 v5 v6 v7 v8 : PV) : R := loopAt Tryd.prog H0 G call k 78 [.b, .b, .b, .b, .b, .b, .b, .b, .b, .b, .b, .b, .b, .b, .b, .b, .b, .b, .a, .blk] n (S78_24 v0 v1 v2 v3 v4 v5 v6 v7 v8) (behind Tryd.prog H0 G call k 78 [.b, .b, .b, .b, .b, .b, .b, .b, .b, .b, .b, .b, .b, .b, .b, .b, .b, .b, .a, .blk])
def SJ78_21 (v0 v1 v2 v3 v4 v5 v6 v7 v8 : PV) : St := [dd, dd, AV.o (AO.pv (Ty.int IntKind.u64) v0), dd, dd, dd, dd, dd, AV.o (AO.pv (Ty.int IntKind.u64) v1), AV.o (AO.pv (Ty.int IntKind.u64) v2), AV.o (AO.pv (Ty.int IntKind.u64) v3), AV.o (AO.pv (Ty.int IntKind.u64) v4), dd, AV.o (AO.pv (Ty.int IntKind.u64) v5), AV.o (AO.pv (Ty.int IntKind.u64) v6), AV.o (AO.pv (Ty.int IntKind.u64) v7), dd, dd, dd, dd, dd, dd, dd, dd, dd, dd, dd, dd, dd, dd, dd, dd, dd, dd, dd, dd, dd, dd, dd, dd, dd, dd, dd, dd, dd, dd, dd, dd, dd, dd, dd, dd, dd, dd, dd, dd, dd, dd, dd, dd, dd, dd, dd, dd, dd, dd, dd, dd, dd, dd, dd, dd, dd, dd, dd, dd, dd, dd, dd, dd, AV.o (AO.pv (Ty.int IntKind.u64) v8), dd, dd, dd, dd, dd, dd, dd, dd, dd, dd, dd, dd, dd, dd, dd, dd, dd, dd, dd, dd, dd, dd, dd, dd, dd, dd, dd, dd, dd, dd, dd, dd, dd, dd, dd, dd, dd, dd, dd, dd, dd, dd, dd, dd, dd, dd, dd, dd, dd, dd, dd, dd, dd, dd]
noncomputable def J78_21 (G : Gate) (call : CallF) (k : Nat) (v0 v1 v2 v3 v4 v5 v6 v7 v8 : PV) : R := G 21 (regAt Tryd.prog call 78 [.b, .b, .b, .b, .b, .b, .b, .b, .b, .b, .b, .b, .b, .b, .b, .a]) (SJ78_21 v0 v1 v2 v3 v4 v5 v6 v7 v8) (behind Tryd.prog H0 G call k 78 [.b, .b, .b, .b, .b, .b, .b, .b, .b, .b, .b, .b, .b, .b, .b, .a] .normal)
def SJ78_18 (v0 v1 v2 v3 v4 v5 v6 v7 v8 : PV) : St := [dd, dd, AV.o (AO.pv (Ty.int IntKind.u64) v0), dd, dd, dd, dd, dd, AV.o (AO.pv (Ty.int IntKind.u64) v1), AV.o (AO.pv (Ty.int IntKind.u64) v2), AV.o (AO.pv (Ty.int IntKind.u64) v3), AV.o (AO.pv (Ty.int IntKind.u64) v4), dd, AV.o (AO.pv (Ty.int IntKind.u64) v5), AV.o (AO.pv (Ty.int IntKind.u64) v6), AV.o (AO.pv (Ty.int IntKind.u64) v7), AV.o (AO.pv (Ty.int IntKind.u64) v8), dd, dd, dd, dd, dd, dd, dd, dd, dd, dd, dd, dd, dd, dd, dd, dd, dd, dd, dd, dd, dd, dd, dd, dd, dd, dd, dd, dd, dd, dd, dd, dd, dd, dd, dd, dd, dd, dd, dd, dd, dd, dd, dd, dd, dd, dd, dd, dd, dd, dd, dd, dd, dd, dd, dd, dd, dd, dd, dd, dd, dd, dd, dd, dd, dd, dd, dd, dd, dd, dd, dd, dd, dd, dd, dd, dd, dd, dd, dd, dd, dd, dd, dd, dd, dd, dd, dd, dd, dd, dd, dd, dd, dd, dd, dd, dd, dd, dd, dd, dd, dd, dd, dd, dd, dd, dd, dd, dd, dd, dd, dd, dd, dd, dd, dd, dd, dd, dd]
noncomputable def J78_18 (G : Gate) (call : CallF) (k n : Nat) (v0 v1 v2 v3 v4 v5 v6 v7 v8 : PV) : R := G 18 (regAt Tryd.prog call 78 [.b, .b, .b, .b, .b, .b, .b, .b, .b, .b, .b, .b, .b, .b, .a, .blk, .lp n, .b, .blk, .a]) (SJ78_18 v0 v1 v2 v3 v4 v5 v6 v7 v8) (behind Tryd.prog H0 G call k 78 [.b, .b, .b, .b, .b, .b, .b, .b, .b, .b, .b, .b, .b, .b, .a, .blk, .lp n, .b, .blk, .a] .normal)
def SJ78_21s1 (v0 v1 v2 v3 v4 v5 v6 v7 : PV) : St := [dd, dd, AV.o (AO.pv (Ty.int IntKind.u64) v0), dd, dd, dd, dd, dd, AV.o (AO.pv (Ty.int IntKind.u64) v1), AV.o (AO.pv (Ty.int IntKind.u64) v2), AV.o (AO.pv (Ty.int IntKind.u64) v3), AV.o (AO.pv (Ty.int IntKind.u64) v4), dd, AV.o (AO.pv (Ty.int IntKind.u64) v5), AV.o (AO.pv (Ty.int IntKind.u64) v6), AV.o (AO.pv (Ty.int IntKind.u64) v7), dd, dd, dd, dd, dd, dd, dd, dd, dd, dd, dd, dd, dd, dd, dd, dd, dd, dd, dd, dd, dd, dd, dd, dd, dd, dd, dd, dd, dd, dd, dd, dd, dd, dd, dd, dd, dd, dd, dd, dd, dd, dd, dd, dd, dd, dd, dd, dd, dd, dd, dd, dd, dd, dd, dd, dd, dd, dd, dd, dd, dd, dd, dd, dd, dd, dd, dd, dd, dd, dd, dd, dd, dd, dd, dd, dd, dd, dd, dd, dd, dd, dd, dd, dd, dd, dd, dd, dd, dd, dd, dd, dd, dd, dd, dd, dd, dd, dd, dd, dd, dd, dd, dd, dd, dd, dd, dd, dd, dd, dd, dd, dd, dd, dd, dd, dd, dd, dd, dd]
noncomputable def J78_21s1 (G : Gate) (call : CallF) (k : Nat) (v0 v1 v2 v3 v4 v5 v6 v7 : PV) : R := G 21 (regAt Tryd.prog call 78 [.b, .b, .b, .b, .b, .b, .b, .b, .b, .b, .b, .b, .b, .b, .b, .a]) (SJ78_21s1 v0 v1 v2 v3 v4 v5 v6 v7) (behind Tryd.prog H0 G call k 78 [.b, .b, .b, .b, .b, .b, .b, .b, .b, .b, .b, .b, .b, .b, .b, .a] .normal)
def S78_17 (v0 v1 v2 v3 v4 v5 v6 v7 v8 : PV) : St := [dd, dd, AV.o (AO.pv (Ty.int IntKind.u64) v0), dd, dd, dd, dd, dd, AV.o (AO.pv (Ty.int IntKind.u64) v1), AV.o (AO.pv (Ty.int IntKind.u64) v2), AV.o (AO.pv (Ty.int IntKind.u64) v3), AV.o (AO.pv (Ty.int IntKind.u64) v4), dd, AV.o (AO.pv (Ty.int IntKind.u64) v5), AV.o (AO.pv (Ty.int IntKind.u64) v6), AV.o (AO.pv (Ty.int IntKind.u64) v7), AV.o (AO.pv (Ty.int IntKind.u64) v8), dd, dd, dd, dd, dd, dd, dd, dd, dd, dd, dd, dd, dd, dd, dd, dd, dd, dd, dd, dd, dd, dd, dd, dd, dd, dd, dd, dd, dd, dd, dd, dd, dd, dd, dd, dd, dd, dd, dd, dd, dd, dd, dd, dd, dd, dd, dd, dd, dd, dd, dd, dd, dd, dd, dd, dd, dd, dd, dd, dd, dd, dd, dd, dd, dd, dd, dd, dd, dd, dd, dd, dd, dd, dd, dd, dd, dd, dd, dd, dd, dd, dd, dd, dd, dd, dd, dd, dd, dd, dd, dd, dd, dd, dd, dd, dd, dd, dd, dd, dd, dd, dd, dd, dd, dd, dd, dd, dd, dd, dd, dd, dd, dd, dd, dd, dd, dd, dd]
noncomputable def L78_17 (G : Gate) (call : CallF) (k n : Nat) (v0 v1 v2 v3 v4 v5 v6 v7 v8 : PV) : R := loopAt Tryd.prog H0 G call k 78 [.b, .b, .b, .b, .b, .b, .b, .b, .b, .b, .b, .b, .b, .b, .a, .blk] n (S78_17 v0 v1 v2 v3 v4 v5 v6 v7 v8) (behind Tryd.prog H0 G call k 78 [.b, .b, .b, .b, .b, .b, .b, .b, .b, .b, .b, .b, .b, .b, .a, .blk])
def SJ78_7 (v0 v1 v2 : PV) : St := [AV.o (AO.pv (Ty.int IntKind.u64) v0), AV.o (AO.pv (Ty.int IntKind.u64) v1), AV.o (AO.pv (Ty.int IntKind.u64) v2), dd, dd, dd, dd, dd, dd, dd, dd, dd, dd, dd, dd, dd, dd, dd, dd, dd, dd, dd, dd, dd, dd, dd, dd, dd, dd, dd, dd, dd, dd, dd, dd, dd, dd, dd, dd, dd, dd, dd, dd, dd, dd, dd, dd, dd, dd, dd, dd, dd, dd, dd, dd, dd, dd, dd, dd, dd, dd, dd, dd, dd, dd, dd, dd, dd, dd, dd, dd, dd, dd, dd, dd, dd, dd, dd, dd, dd, dd, dd, dd, dd, dd, dd, dd, dd, dd, dd, dd, dd, dd, dd, dd, dd, dd, dd, dd, dd, dd, dd, dd, dd, dd, dd, dd, dd, dd, dd, dd, dd, dd, dd, dd, dd, dd, dd, dd, dd, dd, dd, dd, dd, dd, dd, dd, dd, dd, dd, dd, dd, dd, dd, dd]
noncomputable def J78_7 (G : Gate) (call : CallF) (k : Nat) (v0 v1 v2 : PV) : R := G 7 (regAt Tryd.prog call 78 [.b, .b, .b, .b, .a]) (SJ78_7 v0 v1 v2) (behind Tryd.prog H0 G call k 78 [.b, .b, .b, .b, .a] .normal)
def SJ78_5 (v0 v1 v2 : PV) : St := [AV.o (AO.pv (Ty.int IntKind.u64) v0), AV.o (AO.pv (Ty.int IntKind.u64) v1), AV.o (AO.pv (Ty.int IntKind.u64) v2), dd, dd, dd, dd, dd, dd, dd, dd, dd, dd, dd, dd, dd, dd, dd, dd, dd, dd, dd, dd, dd, dd, dd, dd, dd, dd, dd, dd, dd, dd, dd, dd, dd, dd, dd, dd, dd, dd, dd, dd, dd, dd, dd, dd, dd, dd, dd, dd, dd, dd, dd, dd, dd, dd, dd, dd, dd, dd, dd, dd, dd, dd, dd, dd, dd, dd, dd, dd, dd, dd, dd, dd, dd, dd, dd, dd, dd, dd, dd, dd, dd, dd, dd, dd, dd, dd, dd, dd, dd, dd, dd, dd, dd, dd, dd, dd, dd, dd, dd, dd, dd, dd, dd, dd, dd, dd, dd, dd, dd, dd, dd, dd, dd, dd, dd, dd, dd, dd, dd, dd, dd, dd, dd, dd, dd, dd, dd, dd, dd, dd, dd, dd]
noncomputable def J78_5 (G : Gate) (call : CallF) (k : Nat) (v0 v1 v2 : PV) : R := G 5 (regAt Tryd.prog call 78 [.b, .b, .b, .a, .a]) (SJ78_5 v0 v1 v2) (behind Tryd.prog H0 G call k 78 [.b, .b, .b, .a, .a] .normal)
def SJ78_3 (v0 v1 v2 : PV) : St := [AV.o (AO.pv (Ty.int IntKind.u64) v0), AV.o (AO.pv (Ty.int IntKind.u64) v1), AV.o (AO.pv (Ty.int IntKind.u64) v2), dd, dd, dd, dd, dd, dd, dd, dd, dd, dd, dd, dd, dd, dd, dd, dd, dd, dd, dd, dd, dd, dd, dd, dd, dd, dd, dd, dd, dd, dd, dd, dd, dd, dd, dd, dd, dd, dd, dd, dd, dd, dd, dd, dd, dd, dd, dd, dd, dd, dd, dd, dd, dd, dd, dd, dd, dd, dd, dd, dd, dd, dd, dd, dd, dd, dd, dd, dd, dd, dd, dd, dd, dd, dd, dd, dd, dd, dd, dd, dd, dd, dd, dd, dd, dd, dd, dd, dd, dd, dd, dd, dd, dd, dd, dd, dd, dd, dd, dd, dd, dd, dd, dd, dd, dd, dd, dd, dd, dd, dd, dd, dd, dd, dd, dd, dd, dd, dd, dd, dd, dd, dd, dd, dd, dd, dd, dd, dd, dd, dd, dd, dd]
noncomputable def J78_3 (G : Gate) (call : CallF) (k : Nat) (v0 v1 v2 : PV) : R := G 3 (regAt Tryd.prog call 78 [.b, .b, .a, .a]) (SJ78_3 v0 v1 v2) (behind Tryd.prog H0 G call k 78 [.b, .b, .a, .a] .normal)
theorem J78_28_eq (call : CallF) (k : Nat) (v0 v1 v2 v3 v4 v5 v6 : PV) : J78_28 gate1 call k v0 v1 v2 v3 v4 v5 v6 =
  bif ltI (v1.toInt) (0) then
    none
  else
    some ([AO.pv (Ty.int IntKind.u64) (PV.int IntKind.u64 (IntKind.u64.wrap (IntKind.u64.wrap (v3.toInt * 4294967296) + v5.toInt))), AO.pv (Ty.int IntKind.u64) (PV.int IntKind.u64 ((IntKind.u64.wrap (IntKind.u64.wrap (IntKind.u64.wrap (v4.toInt * 4294967296) + v2.toInt) - IntKind.u64.wrap (v5.toInt * v0.toInt))).fdiv (2 ^ min v1.toInt.toNat 64)))], []) := by rw [J78_28, gate1_app]; kernel_rfl
theorem J78_25_eq (call : CallF) (k n : Nat) (v0 v1 v2 v3 v4 v5 v6 v7 v8 : PV) : J78_25 gate1 call k n v0 v1 v2 v3 v4 v5 v6 v7 v8 =
  bif leI (4294967296) (IntKind.u64.wrap (v6.toInt + v2.toInt)) then
  J78_28 gate1 call k (v0) (v1) (v4) (v5) (v7) (PV.int IntKind.u64 (IntKind.u64.wrap (v8.toInt - 1))) (PV.int IntKind.u64 (IntKind.u64.wrap (v8.toInt - 1)))
  else
  L78_24 gate1 call k n (v0) (v1) (v2) (v3) (v4) (v5) (PV.int IntKind.u64 (IntKind.u64.wrap (v6.toInt + v2.toInt))) (v7) (PV.int IntKind.u64 (IntKind.u64.wrap (v8.toInt - 1))) := by rw [J78_25, gate1_app]; kernel_rfl
theorem J78_28s1_eq (call : CallF) (k : Nat) (v0 v1 v2 v3 v4 v5 : PV) : J78_28s1 gate1 call k v0 v1 v2 v3 v4 v5 =
  bif ltI (v1.toInt) (0) then
    none
  else
    some ([AO.pv (Ty.int IntKind.u64) (PV.int IntKind.u64 (IntKind.u64.wrap (IntKind.u64.wrap (v3.toInt * 4294967296) + v5.toInt))), AO.pv (Ty.int IntKind.u64) (PV.int IntKind.u64 ((IntKind.u64.wrap (IntKind.u64.wrap (IntKind.u64.wrap (v4.toInt * 4294967296) + v2.toInt) - IntKind.u64.wrap (v5.toInt * v0.toInt))).fdiv (2 ^ min v1.toInt.toNat 64)))], []) := by rw [J78_28s1, gate1_app]; kernel_rfl
theorem L78_24_succ (G : Gate) (call : CallF) (k n : Nat) (v0 v1 v2 v3 v4 v5 v6 v7 v8 : PV) : L78_24 G call k (n + 1) v0 v1 v2 v3 v4 v5 v6 v7 v8 =
  bif leI (4294967296) (v8.toInt) then
    J78_25 G call k n (v0) (v1) (v2) (v3) (v4) (v5) (v6) (v7) (v8)
  else
    bif ltI (IntKind.u64.wrap (IntKind.u64.wrap (4294967296 * v6.toInt) + v4.toInt)) (IntKind.u64.wrap (v8.toInt * v3.toInt)) then
      J78_25 G call k n (v0) (v1) (v2) (v3) (v4) (v5) (v6) (v7) (v8)
    else
  J78_28s1 G call k (v0) (v1) (v4) (v5) (v7) (v8) := by kernel_rfl
theorem J78_21_eq (call : CallF) (k : Nat) (v0 v1 v2 v3 v4 v5 v6 v7 v8 : PV) : J78_21 gate1 call k v0 v1 v2 v3 v4 v5 v6 v7 v8 =
  bif eqI (v2.toInt) (0) then
    none
  else
    L78_24 gate1 call k k (v0) (v1) (v2) (v3) (v6) (v7) (PV.int IntKind.u64 (IntKind.u64.wrap (IntKind.u64.wrap (IntKind.u64.wrap (IntKind.u64.wrap (v4.toInt * 4294967296) + v5.toInt) - IntKind.u64.wrap (v7.toInt * v0.toInt)) - IntKind.u64.wrap (IntKind.u64.wrap ((IntKind.u64.wrap (IntKind.u64.wrap (IntKind.u64.wrap (v4.toInt * 4294967296) + v5.toInt) - IntKind.u64.wrap (v7.toInt * v0.toInt))).tdiv v2.toInt) * v2.toInt)))) (PV.int IntKind.u64 (IntKind.u64.wrap (IntKind.u64.wrap (IntKind.u64.wrap (v4.toInt * 4294967296) + v5.toInt) - IntKind.u64.wrap (v7.toInt * v0.toInt)))) (PV.int IntKind.u64 (IntKind.u64.wrap ((IntKind.u64.wrap (IntKind.u64.wrap (IntKind.u64.wrap (v4.toInt * 4294967296) + v5.toInt) - IntKind.u64.wrap (v7.toInt * v0.toInt))).tdiv v2.toInt))) := by rw [J78_21, gate1_app]; kernel_rfl
theorem J78_18_eq (call : CallF) (k n : Nat) (v0 v1 v2 v3 v4 v5 v6 v7 v8 : PV) : J78_18 gate1 call k n v0 v1 v2 v3 v4 v5 v6 v7 v8 =
  bif leI (4294967296) (IntKind.u64.wrap (v8.toInt + v2.toInt)) then
  J78_21 gate1 call k (v0) (v1) (v2) (v3) (v4) (v5) (v6) (PV.int IntKind.u64 (IntKind.u64.wrap (v7.toInt - 1))) (PV.int IntKind.u64 (IntKind.u64.wrap (v7.toInt - 1)))
  else
  L78_17 gate1 call k n (v0) (v1) (v2) (v3) (v4) (v5) (v6) (PV.int IntKind.u64 (IntKind.u64.wrap (v7.toInt - 1))) (PV.int IntKind.u64 (IntKind.u64.wrap (v8.toInt + v2.toInt))) := by rw [J78_18, gate1_app]; kernel_rfl
theorem J78_21s1_eq (call : CallF) (k : Nat) (v0 v1 v2 v3 v4 v5 v6 v7 : PV) : J78_21s1 gate1 call k v0 v1 v2 v3 v4 v5 v6 v7 =
  bif eqI (v2.toInt) (0) then
    none
  else
    L78_24 gate1 call k k (v0) (v1) (v2) (v3) (v6) (v7) (PV.int IntKind.u64 (IntKind.u64.wrap (IntKind.u64.wrap (IntKind.u64.wrap (IntKind.u64.wrap (v4.toInt * 4294967296) + v5.toInt) - IntKind.u64.wrap (v7.toInt * v0.toInt)) - IntKind.u64.wrap (IntKind.u64.wrap ((IntKind.u64.wrap (IntKind.u64.wrap (IntKind.u64.wrap (v4.toInt * 4294967296) + v5.toInt) - IntKind.u64.wrap (v7.toInt * v0.toInt))).tdiv v2.toInt) * v2.toInt)))) (PV.int IntKind.u64 (IntKind.u64.wrap (IntKind.u64.wrap (IntKind.u64.wrap (v4.toInt * 4294967296) + v5.toInt) - IntKind.u64.wrap (v7.toInt * v0.toInt)))) (PV.int IntKind.u64 (IntKind.u64.wrap ((IntKind.u64.wrap (IntKind.u64.wrap (IntKind.u64.wrap (v4.toInt * 4294967296) + v5.toInt) - IntKind.u64.wrap (v7.toInt * v0.toInt))).tdiv v2.toInt))) := by rw [J78_21s1, gate1_app]; kernel_rfl
theorem L78_17_succ (G : Gate) (call : CallF) (k n : Nat) (v0 v1 v2 v3 v4 v5 v6 v7 v8 : PV) : L78_17 G call k (n + 1) v0 v1 v2 v3 v4 v5 v6 v7 v8 =
  bif leI (4294967296) (v7.toInt) then
    J78_18 G call k n (v0) (v1) (v2) (v3) (v4) (v5) (v6) (v7) (v8)
  else
    bif ltI (IntKind.u64.wrap (IntKind.u64.wrap (4294967296 * v8.toInt) + v5.toInt)) (IntKind.u64.wrap (v7.toInt * v3.toInt)) then
      J78_18 G call k n (v0) (v1) (v2) (v3) (v4) (v5) (v6) (v7) (v8)
    else
  J78_21s1 G call k (v0) (v1) (v2) (v3) (v4) (v5) (v6) (v7) := by kernel_rfl
theorem J78_7_eq (call : CallF) (k : Nat) (v0 v1 v2 : PV) : J78_7 gate1 call k v0 v1 v2 =
  let c0 := call 83 [AO.pv (Ty.int IntKind.u64) v2]
  bif okRes (Ty.int IntKind.i64) c0 then
    bif ltI (IntKind.u64.wrap (resPV c0).toInt) (0) then
      none
    else
      bif ltI (IntKind.u64.wrap (resPV c0).toInt) (0) then
        none
      else
        bif ltI (IntKind.u64.wrap (64 - IntKind.u64.wrap (resPV c0).toInt)) (0) then
          none
        else
          bif ltI (IntKind.u64.wrap (resPV c0).toInt) (0) then
            none
          else
            bif eqI ((IntKind.u64.wrap (v2.toInt * 2 ^ min (IntKind.u64.wrap (resPV c0).toInt).toNat 64)).fdiv (2 ^ 32)) (0) then
              none
            else
              L78_17 gate1 call k k (PV.int IntKind.u64 (IntKind.u64.wrap (v2.toInt * 2 ^ min (IntKind.u64.wrap (resPV c0).toInt).toNat 64))) (PV.int IntKind.u64 (IntKind.u64.wrap (resPV c0).toInt)) (PV.int IntKind.u64 ((IntKind.u64.wrap (v2.toInt * 2 ^ min (IntKind.u64.wrap (resPV c0).toInt).toNat 64)).fdiv (2 ^ 32))) (PV.int IntKind.u64 (IntKind.u64.wrap (Nat.cast (BitVec.ofInt 64 (IntKind.u64.wrap (v2.toInt * 2 ^ min (IntKind.u64.wrap (resPV c0).toInt).toNat 64)) &&& BitVec.ofInt 64 4294967295).toNat : Int))) (PV.int IntKind.u64 (IntKind.u64.wrap (Nat.cast (BitVec.ofInt 64 (IntKind.u64.wrap (v0.toInt * 2 ^ min (IntKind.u64.wrap (resPV c0).toInt).toNat 64)) ||| BitVec.ofInt 64 (v1.toInt.fdiv (2 ^ min (IntKind.u64.wrap (64 - IntKind.u64.wrap (resPV c0).toInt)).toNat 64))).toNat : Int))) (PV.int IntKind.u64 ((IntKind.u64.wrap (v1.toInt * 2 ^ min (IntKind.u64.wrap (resPV c0).toInt).toNat 64)).fdiv (2 ^ 32))) (PV.int IntKind.u64 (IntKind.u64.wrap (Nat.cast (BitVec.ofInt 64 (IntKind.u64.wrap (v1.toInt * 2 ^ min (IntKind.u64.wrap (resPV c0).toInt).toNat 64)) &&& BitVec.ofInt 64 4294967295).toNat : Int))) (PV.int IntKind.u64 (IntKind.u64.wrap ((IntKind.u64.wrap (Nat.cast (BitVec.ofInt 64 (IntKind.u64.wrap (v0.toInt * 2 ^ min (IntKind.u64.wrap (resPV c0).toInt).toNat 64)) ||| BitVec.ofInt 64 (v1.toInt.fdiv (2 ^ min (IntKind.u64.wrap (64 - IntKind.u64.wrap (resPV c0).toInt)).toNat 64))).toNat : Int)).tdiv ((IntKind.u64.wrap (v2.toInt * 2 ^ min (IntKind.u64.wrap (resPV c0).toInt).toNat 64)).fdiv (2 ^ 32))))) (PV.int IntKind.u64 (IntKind.u64.wrap (IntKind.u64.wrap (Nat.cast (BitVec.ofInt 64 (IntKind.u64.wrap (v0.toInt * 2 ^ min (IntKind.u64.wrap (resPV c0).toInt).toNat 64)) ||| BitVec.ofInt 64 (v1.toInt.fdiv (2 ^ min (IntKind.u64.wrap (64 - IntKind.u64.wrap (resPV c0).toInt)).toNat 64))).toNat : Int) - IntKind.u64.wrap (IntKind.u64.wrap ((IntKind.u64.wrap (Nat.cast (BitVec.ofInt 64 (IntKind.u64.wrap (v0.toInt * 2 ^ min (IntKind.u64.wrap (resPV c0).toInt).toNat 64)) ||| BitVec.ofInt 64 (v1.toInt.fdiv (2 ^ min (IntKind.u64.wrap (64 - IntKind.u64.wrap (resPV c0).toInt)).toNat 64))).toNat : Int)).tdiv ((IntKind.u64.wrap (v2.toInt * 2 ^ min (IntKind.u64.wrap (resPV c0).toInt).toNat 64)).fdiv (2 ^ 32))) * (IntKind.u64.wrap (v2.toInt * 2 ^ min (IntKind.u64.wrap (resPV c0).toInt).toNat 64)).fdiv (2 ^ 32)))))
  else
    none := by rw [J78_7, gate1_app]; kernel_rfl
theorem J78_5_eq (call : CallF) (k : Nat) (v0 v1 v2 : PV) : J78_5 gate1 call k v0 v1 v2 =
  bif eqI (v0.toInt) (0) then
    bif eqI (v2.toInt) (0) then
      none
    else
      bif eqI (v2.toInt) (0) then
        none
      else
        some ([AO.pv (Ty.int IntKind.u64) (PV.int IntKind.u64 (IntKind.u64.wrap (v1.toInt.tdiv v2.toInt))), AO.pv (Ty.int IntKind.u64) (PV.int IntKind.u64 (v1.toInt.tmod v2.toInt))], [])
  else
    J78_7 gate1 call k (v0) (v1) (v2) := by rw [J78_5, gate1_app]; kernel_rfl
theorem J78_3_eq (call : CallF) (k : Nat) (v0 v1 v2 : PV) : J78_3 gate1 call k v0 v1 v2 =
  bif leI (v2.toInt) (v0.toInt) then
    none
  else
    J78_5 gate1 call k (v0) (v1) (v2) := by rw [J78_3, gate1_app]; kernel_rfl
theorem R78 (call : CallF) (k : Nat) (x0 x1 x2 : PV) : evStep Tryd.prog H0 call k 78 [AO.pv (Ty.int IntKind.u64) x0, AO.pv (Ty.int IntKind.u64) x1, AO.pv (Ty.int IntKind.u64) x2] =
  bif eqI (x2.toInt) (0) then
    none
  else
    J78_3 gate1 call k (x0) (x1) (x2) := by rw [evStep_eq]; kernel_rfl
end Go.V

namespace Go.V

/-- math/bits.Add64, as the model runs it. -/
def add64B (f0 : FuncId) : CallF := fun f az =>
  bif Nat.beq f f0 then
    match az with
    | [.pv (.int .u64) x, .pv (.int .u64) y, .pv (.int .u64) c] =>
      bif leI 0 x.toInt && (leI 0 y.toInt && (leI 0 c.toInt && leI c.toInt 1)) then
        some ([.pv (.int .u64) (.int .u64 ((x.toInt + y.toInt + c.toInt) % 18446744073709551616)), .pv (.int .u64) (.int .u64 ((x.toInt + y.toInt + c.toInt) / 18446744073709551616))], [])
      else none
    | _ => none
  else none

theorem add64B_ok {P : Program} {f0 : FuncId} {fn : Func} (hf : P.funcs[f0]? = some fn) (hname : (fn.name == "runtime.NumGoroutine") = false)
    (hb : fn.body.isNone = true) (hn : Extern.findNext fn = none) (he : Extern.find fn = some add64Entry) : CallOk P (add64B f0) := by
  refine ⟨fun f az res back h vals w g hargs hfr hown => ?_⟩
  unfold add64B at h
  cases hff : Nat.beq f f0 with
  | false => simp [hff] at h
  | true =>
    have := Nat.eq_of_beq_eq_true hff
    subst this
    simp only [hff, cond_true] at h
    split at h
    · rename_i x y c
      cases hc : (leI 0 x.toInt && (leI 0 y.toInt && (leI 0 c.toInt && leI c.toInt 1))) with
      | false => simp [hc] at h
      | true =>
        simp only [hc, cond_true, Option.some.injEq, Prod.mk.injEq] at h
        obtain ⟨rfl, rfl⟩ := h
        simp only [Bool.and_eq_true] at hc
        obtain ⟨c1, c2, c3, c4⟩ := hc
        have c1 : 0 ≤ x.toInt := of_decide_eq_true c1
        have c2 : 0 ≤ y.toInt := of_decide_eq_true c2
        have c3 : 0 ≤ c.toInt := of_decide_eq_true c3
        have c4 : c.toInt ≤ 1 := of_decide_eq_true c4
        match vals, hargs with
        | [vx, vy, vc], ⟨hx, hy, hcc, _⟩ =>
          obtain ⟨nx, rfl, rfl⟩ := hx.int_inv
          obtain ⟨ny, rfl, rfl⟩ := hy.int_inv
          obtain ⟨nc, rfl, rfl⟩ := hcc.int_inv
          simp only [PV.toInt] at c1 c2 c3 c4 ⊢
          refine .inr ⟨.tuple #[.int .u64 ((nx + ny + nc) % 18446744073709551616), .int .u64 ((nx + ny + nc) / 18446744073709551616)], w, ?_, ?_⟩
          · rw [run_callFunc_extern hf hname hb hn he]
            have := run_add64 (P := P) nx ny nc c1 c2 c3 c4 w
            rw [show (⟨[.int .u64 nx, .int .u64 ny, .int .u64 nc]⟩ : Array Value) = #[.int .u64 nx, .int .u64 ny, .int .u64 nc] from rfl, this]
            rfl
          · refine ⟨_, g, rfl, Fr.refl w g hfr, ?_, ?_, rfl, fun i y h => by simp at h⟩
            · refine ⟨_, rfl, rfl, fun i x v hx hv => ?_⟩
              match i with
              | 0 => simp at hx hv; subst hx hv; exact ⟨_, _, rfl, .int _ _⟩
              | 1 => simp at hx hv; subst hx hv; exact ⟨_, _, rfl, .int _ _⟩
              | i + 2 => simp at hx
            · intro b s p ht
              exact Nat.le_of_lt (hown b s p ht)
    · cases h
end Go.V
