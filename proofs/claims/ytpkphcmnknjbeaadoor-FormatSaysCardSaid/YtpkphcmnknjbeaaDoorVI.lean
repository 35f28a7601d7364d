/- What the evaluator makes of the reference's functions, each as an equation of its own with its calls left open. Conditions: none. -/
import Derived.Test.YtpkphcmnknjbeaaDoorVH
set_option maxRecDepth 100000
set_option linter.unusedVariables false
namespace Go.V
open Go.Proofs
def SJ21_2 (v0 v1 v2 v3 v4 v5 : PV) : St := [dd, AV.o (AO.box 23 [AO.pv Ty.str v0, AO.pv (Ty.int IntKind.i64) v1, AO.pv (Ty.int IntKind.i64) v2, AO.pv Ty.str v3, AO.pv Ty.str v4]), dd, dd, dd, dd, dd, dd, dd, dd, dd, dd, dd, dd, dd, dd, dd, AV.o (AO.pv Ty.bool v5), dd, dd, dd, dd, dd, dd, dd, dd, dd, dd, dd, dd, dd, dd, dd, dd, dd, dd, dd, dd, dd, dd, dd, dd, dd, dd, dd, dd, dd, dd, dd, dd, dd, dd, dd, dd, dd, dd, dd, dd, dd, dd, dd, dd, dd, dd, dd, dd, dd, dd, dd, dd, dd, dd, dd, dd, dd, dd, dd, dd, dd, dd, dd, dd, dd, dd, dd, dd, dd, dd, dd, dd, dd, dd, dd, dd, dd, dd, dd, dd, dd, dd, dd, dd, dd, dd, dd]
noncomputable def J21_2 (G : Gate) (call : CallF) (k : Nat) (v0 v1 v2 v3 v4 v5 : PV) : R := G 2 (regAt Tryd.prog call 21 [.b, .a, .b, .x, .a]) (SJ21_2 v0 v1 v2 v3 v4 v5) (behind Tryd.prog H0 G call k 21 [.b, .a, .b, .x, .a] .normal)
def SJ21_5 (v0 v1 v2 v3 v4 v5 v6 : PV) : St := [dd, AV.o (AO.box 23 [AO.pv Ty.str v0, AO.pv (Ty.int IntKind.i64) v1, AO.pv (Ty.int IntKind.i64) v2, AO.pv Ty.str v3, AO.pv Ty.str v4]), dd, AV.o (AO.pv Ty.bool v5), dd, dd, dd, dd, dd, dd, dd, dd, dd, dd, dd, dd, dd, dd, dd, dd, dd, dd, dd, dd, dd, dd, dd, dd, dd, dd, dd, dd, dd, AV.o (AO.pv Ty.bool v6), dd, dd, dd, dd, dd, dd, dd, dd, dd, dd, dd, dd, dd, dd, dd, dd, dd, dd, dd, dd, dd, dd, dd, dd, dd, dd, dd, dd, dd, dd, dd, dd, dd, dd, dd, dd, dd, dd, dd, dd, dd, dd, dd, dd, dd, dd, dd, dd, dd, dd, dd, dd, dd, dd, dd, dd, dd, dd, dd, dd, dd, dd, dd, dd, dd, dd, dd, dd, dd, dd, dd]
noncomputable def J21_5 (G : Gate) (call : CallF) (k : Nat) (v0 v1 v2 v3 v4 v5 v6 : PV) : R := G 5 (regAt Tryd.prog call 21 [.b, .b, .a, .b, .x, .b, .a]) (SJ21_5 v0 v1 v2 v3 v4 v5 v6) (behind Tryd.prog H0 G call k 21 [.b, .b, .a, .b, .x, .b, .a] .normal)
def SJ21_7 (v0 v1 v2 v3 v4 v5 v6 : PV) : St := [dd, AV.o (AO.box 23 [AO.pv Ty.str v0, AO.pv (Ty.int IntKind.i64) v1, AO.pv (Ty.int IntKind.i64) v2, AO.pv Ty.str v3, AO.pv Ty.str v4]), dd, dd, AV.o (AO.pv Ty.bool v5), dd, dd, dd, dd, dd, dd, dd, dd, dd, dd, dd, dd, dd, dd, dd, dd, dd, dd, dd, dd, dd, dd, dd, dd, dd, dd, dd, dd, dd, dd, dd, dd, dd, dd, dd, dd, dd, dd, dd, dd, dd, dd, dd, dd, dd, dd, dd, dd, dd, dd, dd, dd, dd, dd, dd, dd, dd, dd, dd, dd, dd, dd, dd, dd, dd, AV.o (AO.pv Ty.bool v6), dd, dd, dd, dd, dd, dd, dd, dd, dd, dd, dd, dd, dd, dd, dd, dd, dd, dd, dd, dd, dd, dd, dd, dd, dd, dd, dd, dd, dd, dd, dd, dd, dd, dd]
noncomputable def J21_7 (G : Gate) (call : CallF) (k : Nat) (v0 v1 v2 v3 v4 v5 v6 : PV) : R := G 7 (regAt Tryd.prog call 21 [.b, .b, .b, .b, .a]) (SJ21_7 v0 v1 v2 v3 v4 v5 v6) (behind Tryd.prog H0 G call k 21 [.b, .b, .b, .b, .a] .normal)
def SJ21_6 (v0 v1 v2 v3 v4 : PV) : St := [dd, AV.o (AO.box 23 [AO.pv Ty.str v0, AO.pv (Ty.int IntKind.i64) v1, AO.pv (Ty.int IntKind.i64) v2, AO.pv Ty.str v3, AO.pv Ty.str v4]), dd, dd, dd, dd, dd, dd, dd, dd, dd, dd, dd, dd, dd, dd, dd, dd, dd, dd, dd, dd, dd, dd, dd, dd, dd, dd, dd, dd, dd, dd, dd, dd, dd, dd, dd, dd, dd, dd, dd, dd, dd, dd, dd, dd, dd, dd, dd, dd, dd, dd, dd, dd, dd, dd, dd, dd, dd, dd, dd, dd, dd, dd, dd, dd, dd, dd, dd, dd, dd, dd, dd, dd, dd, dd, dd, dd, dd, dd, dd, dd, dd, dd, dd, dd, dd, dd, dd, dd, dd, dd, dd, dd, dd, dd, dd, dd, dd, dd, dd, dd, dd, dd, dd]
noncomputable def J21_6 (G : Gate) (call : CallF) (k : Nat) (v0 v1 v2 v3 v4 : PV) : R := G 6 (regAt Tryd.prog call 21 [.b, .b, .b, .a]) (SJ21_6 v0 v1 v2 v3 v4) (behind Tryd.prog H0 G call k 21 [.b, .b, .b, .a] .normal)
def SJ21_3 (v0 v1 v2 v3 v4 : PV) : St := [dd, AV.o (AO.box 23 [AO.pv Ty.str v0, AO.pv (Ty.int IntKind.i64) v1, AO.pv (Ty.int IntKind.i64) v2, AO.pv Ty.str v3, AO.pv Ty.str v4]), dd, dd, dd, dd, dd, dd, dd, dd, dd, dd, dd, dd, dd, dd, dd, dd, dd, dd, dd, dd, dd, dd, dd, dd, dd, dd, dd, dd, dd, dd, dd, dd, dd, dd, dd, dd, dd, dd, dd, dd, dd, dd, dd, dd, dd, dd, dd, dd, dd, dd, dd, dd, dd, dd, dd, dd, dd, dd, dd, dd, dd, dd, dd, dd, dd, dd, dd, dd, dd, dd, dd, dd, dd, dd, dd, dd, dd, dd, dd, dd, dd, dd, dd, dd, dd, dd, dd, dd, dd, dd, dd, dd, dd, dd, dd, dd, dd, dd, dd, dd, dd, dd, dd]
noncomputable def J21_3 (G : Gate) (call : CallF) (k : Nat) (v0 v1 v2 v3 v4 : PV) : R := G 3 (regAt Tryd.prog call 21 [.b, .b, .a, .a]) (SJ21_3 v0 v1 v2 v3 v4) (behind Tryd.prog H0 G call k 21 [.b, .b, .a, .a] .normal)
theorem J21_2_eq (call : CallF) (k : Nat) (v0 v1 v2 v3 v4 v5 : PV) : J21_2 gate1 call k v0 v1 v2 v3 v4 v5 =
  some ([AO.pv Ty.bool (PV.bool false)], []) := by rw [J21_2, gate1_app]; kernel_rfl
theorem J21_5_eq (call : CallF) (k : Nat) (v0 v1 v2 v3 v4 v5 v6 : PV) : J21_5 gate1 call k v0 v1 v2 v3 v4 v5 v6 =
  bif v5.toBool then
    bif leI (0) (v1.toInt) then
      bif leI (v1.toInt) (30) then
        bif leI (0) (v2.toInt) then
          bif leI (v2.toInt) (30) then
            some ([AO.pv Ty.bool (PV.bool (leI (IntKind.i64.wrap (v1.toInt + v2.toInt)) (30)))], [])
          else
            some ([AO.pv Ty.bool (PV.bool false)], [])
        else
          some ([AO.pv Ty.bool (PV.bool false)], [])
      else
        some ([AO.pv Ty.bool (PV.bool false)], [])
    else
      some ([AO.pv Ty.bool (PV.bool false)], [])
  else
    some ([AO.pv Ty.bool (PV.bool false)], []) := by rw [J21_5, gate1_app]; kernel_rfl
theorem J21_7_eq (call : CallF) (k : Nat) (v0 v1 v2 v3 v4 v5 v6 : PV) : J21_7 gate1 call k v0 v1 v2 v3 v4 v5 v6 =
  bif v0.toStr.data.toList == (ByteArray.mk #[102, 108, 111, 97, 116]).data.toList then
    bif v5.toBool then
      bif leI (1) (v1.toInt) then
        bif leI (v1.toInt) (24) then
          bif leI (0) (v2.toInt) then
            bif leI (v2.toInt) (20) then
              some ([AO.pv Ty.bool (PV.bool (leI (IntKind.i64.wrap (v1.toInt + v2.toInt)) (30)))], [])
            else
              some ([AO.pv Ty.bool (PV.bool false)], [])
          else
            some ([AO.pv Ty.bool (PV.bool false)], [])
        else
          some ([AO.pv Ty.bool (PV.bool false)], [])
      else
        some ([AO.pv Ty.bool (PV.bool false)], [])
    else
      some ([AO.pv Ty.bool (PV.bool false)], [])
  else
    some ([AO.pv Ty.bool (PV.bool false)], []) := by rw [J21_7, gate1_app]; kernel_rfl
theorem J21_6_eq (call : CallF) (k : Nat) (v0 v1 v2 v3 v4 : PV) : J21_6 gate1 call k v0 v1 v2 v3 v4 =
  bif v4.toStr.data.toList == (ByteArray.mk #[115, 97, 116]).data.toList then
    J21_7 gate1 call k (v0) (v1) (v2) (v3) (v4) (PV.bool true) (PV.bool true)
  else
    J21_7 gate1 call k (v0) (v1) (v2) (v3) (v4) (PV.bool (v4.toStr.data.toList == (ByteArray.mk #[110, 111, 110, 101]).data.toList)) (PV.bool (v4.toStr.data.toList == (ByteArray.mk #[110, 111, 110, 101]).data.toList)) := by rw [J21_6, gate1_app]; kernel_rfl
theorem J21_3_eq (call : CallF) (k : Nat) (v0 v1 v2 v3 v4 : PV) : J21_3 gate1 call k v0 v1 v2 v3 v4 =
  bif v0.toStr.data.toList == (ByteArray.mk #[102, 105, 120]).data.toList then
    bif v4.toStr.data.toList == (ByteArray.mk #[115, 97, 116]).data.toList then
      J21_5 gate1 call k (v0) (v1) (v2) (v3) (v4) (PV.bool true) (PV.bool true)
    else
      bif v4.toStr.data.toList == (ByteArray.mk #[119, 114, 97, 112]).data.toList then
        J21_5 gate1 call k (v0) (v1) (v2) (v3) (v4) (PV.bool true) (PV.bool true)
      else
        J21_5 gate1 call k (v0) (v1) (v2) (v3) (v4) (PV.bool (v4.toStr.data.toList == (ByteArray.mk #[110, 111, 110, 101]).data.toList)) (PV.bool (v4.toStr.data.toList == (ByteArray.mk #[110, 111, 110, 101]).data.toList))
  else
    J21_6 gate1 call k (v0) (v1) (v2) (v3) (v4) := by rw [J21_3, gate1_app]; kernel_rfl
theorem R21 (call : CallF) (k : Nat) (x0 : PV) : evStep Tryd.prog H0 call k 21 [AO.pv (Ty.st 23) x0] =
  bif !(x0.cell 3).toStr.data.toList == (ByteArray.mk #[102, 108, 111, 111, 114]).data.toList then
    bif !(x0.cell 3).toStr.data.toList == (ByteArray.mk #[110, 101, 97, 114]).data.toList then
      bif !(x0.cell 3).toStr.data.toList == (ByteArray.mk #[122, 101, 114, 111]).data.toList then
        J21_2 gate1 call k (x0.cell 0) (x0.cell 1) (x0.cell 2) (x0.cell 3) (x0.cell 4) (PV.bool true)
      else
        J21_3 gate1 call k (x0.cell 0) (x0.cell 1) (x0.cell 2) (x0.cell 3) (x0.cell 4)
    else
      J21_3 gate1 call k (x0.cell 0) (x0.cell 1) (x0.cell 2) (x0.cell 3) (x0.cell 4)
  else
    J21_3 gate1 call k (x0.cell 0) (x0.cell 1) (x0.cell 2) (x0.cell 3) (x0.cell 4) := by rw [evStep_eq]; kernel_rfl
def SJ22_5 (v0 v1 v2 v3 v4 v5 v6 : PV) : St := [dd, AV.o (AO.box 23 [AO.pv Ty.str v0, AO.pv (Ty.int IntKind.i64) v1, AO.pv (Ty.int IntKind.i64) v2, AO.pv Ty.str v3, AO.pv Ty.str v4]), AV.o (AO.box 25 [AO.pv (Ty.int IntKind.i64) v5, AO.pv (Ty.int IntKind.i64) v6]), dd, dd, dd, dd, dd, dd, dd, dd, dd, dd, dd, dd, dd, dd, dd, dd, dd, dd, dd, dd, dd, dd, dd, dd, dd]
noncomputable def J22_5 (G : Gate) (call : CallF) (k : Nat) (v0 v1 v2 v3 v4 v5 v6 : PV) : R := G 5 (regAt Tryd.prog call 22 [.b, .b, .b, .a]) (SJ22_5 v0 v1 v2 v3 v4 v5 v6) (behind Tryd.prog H0 G call k 22 [.b, .b, .b, .a] .normal)
def SJ22_3 (v0 v1 v2 v3 v4 v5 v6 : PV) : St := [dd, AV.o (AO.box 23 [AO.pv Ty.str v0, AO.pv (Ty.int IntKind.i64) v1, AO.pv (Ty.int IntKind.i64) v2, AO.pv Ty.str v3, AO.pv Ty.str v4]), AV.o (AO.box 25 [AO.pv (Ty.int IntKind.i64) v5, AO.pv (Ty.int IntKind.i64) v6]), dd, dd, dd, dd, dd, dd, dd, dd, dd, dd, dd, dd, dd, dd, dd, dd, dd, dd, dd, dd, dd, dd, dd, dd, dd]
noncomputable def J22_3 (G : Gate) (call : CallF) (k : Nat) (v0 v1 v2 v3 v4 v5 v6 : PV) : R := G 3 (regAt Tryd.prog call 22 [.b, .b, .a, .a]) (SJ22_3 v0 v1 v2 v3 v4 v5 v6) (behind Tryd.prog H0 G call k 22 [.b, .b, .a, .a] .normal)
theorem J22_5_eq (call : CallF) (k : Nat) (v0 v1 v2 v3 v4 v5 v6 : PV) : J22_5 gate1 call k v0 v1 v2 v3 v4 v5 v6 =
  let c5 := call 49 [AO.pv (Ty.int IntKind.i64) v1]
  bif okRes (Ty.int IntKind.i64) c5 then
    let c6 := call 50 [AO.pv (Ty.int IntKind.i64) (PV.int IntKind.i64 (IntKind.i64.wrap (1 - (resPV c5).toInt))), AO.pv (Ty.int IntKind.i64) v2]
    bif okRes (Ty.st 25) c6 then
      some ([AO.pv (Ty.st 25) (PV.agg [(resPV c6).cell 0, (resPV c6).cell 1])], [])
    else
      none
  else
    none := by rw [J22_5, gate1_app]; kernel_rfl
theorem J22_3_eq (call : CallF) (k : Nat) (v0 v1 v2 v3 v4 v5 v6 : PV) : J22_3 gate1 call k v0 v1 v2 v3 v4 v5 v6 =
  bif v0.toStr.data.toList == (ByteArray.mk #[102, 105, 120]).data.toList then
    let c2 := call 49 [AO.pv (Ty.int IntKind.i64) (PV.int IntKind.i64 (IntKind.i64.wrap (v1.toInt + v2.toInt)))]
    bif okRes (Ty.int IntKind.i64) c2 then
      let c3 := call 49 [AO.pv (Ty.int IntKind.i64) v2]
      bif okRes (Ty.int IntKind.i64) c3 then
        let c4 := call 46 [AO.pv (Ty.int IntKind.i64) (PV.int IntKind.i64 (IntKind.i64.wrap (0 - (resPV c2).toInt))), AO.pv (Ty.int IntKind.i64) (resPV c3)]
        bif okRes (Ty.st 25) c4 then
          some ([AO.pv (Ty.st 25) (PV.agg [(resPV c4).cell 0, (resPV c4).cell 1])], [])
        else
          none
      else
        none
    else
      none
  else
    J22_5 gate1 call k (v0) (v1) (v2) (v3) (v4) (v5) (v6) := by rw [J22_3, gate1_app]; kernel_rfl
theorem R22 (call : CallF) (k : Nat) (x0 : PV) : evStep Tryd.prog H0 call k 22 [AO.pv (Ty.st 23) x0] =
  let c0 := call 21 [AO.pv (Ty.st 23) (PV.agg [x0.cell 0, x0.cell 1, x0.cell 2, x0.cell 3, x0.cell 4])]
  bif okRes Ty.bool c0 then
    bif !(resPV c0).toBool then
      let c1 := call 48 []
      bif okRes (Ty.st 25) c1 then
        some ([AO.pv (Ty.st 25) (PV.agg [(resPV c1).cell 0, (resPV c1).cell 1])], [])
      else
        none
    else
      J22_3 gate1 call k (x0.cell 0) (x0.cell 1) (x0.cell 2) (x0.cell 3) (x0.cell 4) (PV.int IntKind.i64 0) (PV.int IntKind.i64 0)
  else
    none := by rw [evStep_eq]; kernel_rfl
def SJ23_5 (v0 v1 v2 v3 v4 v5 v6 : PV) : St := [dd, AV.o (AO.box 23 [AO.pv Ty.str v0, AO.pv (Ty.int IntKind.i64) v1, AO.pv (Ty.int IntKind.i64) v2, AO.pv Ty.str v3, AO.pv Ty.str v4]), AV.o (AO.box 25 [AO.pv (Ty.int IntKind.i64) v5, AO.pv (Ty.int IntKind.i64) v6]), dd, dd, dd, dd, dd, dd, dd, dd, dd, dd, dd, dd, dd, dd, dd, dd, dd, dd, dd, dd, dd, dd, dd, dd, dd]
noncomputable def J23_5 (G : Gate) (call : CallF) (k : Nat) (v0 v1 v2 v3 v4 v5 v6 : PV) : R := G 5 (regAt Tryd.prog call 23 [.b, .b, .b, .a]) (SJ23_5 v0 v1 v2 v3 v4 v5 v6) (behind Tryd.prog H0 G call k 23 [.b, .b, .b, .a] .normal)
def SJ23_3 (v0 v1 v2 v3 v4 v5 v6 : PV) : St := [dd, AV.o (AO.box 23 [AO.pv Ty.str v0, AO.pv (Ty.int IntKind.i64) v1, AO.pv (Ty.int IntKind.i64) v2, AO.pv Ty.str v3, AO.pv Ty.str v4]), AV.o (AO.box 25 [AO.pv (Ty.int IntKind.i64) v5, AO.pv (Ty.int IntKind.i64) v6]), dd, dd, dd, dd, dd, dd, dd, dd, dd, dd, dd, dd, dd, dd, dd, dd, dd, dd, dd, dd, dd, dd, dd, dd, dd]
noncomputable def J23_3 (G : Gate) (call : CallF) (k : Nat) (v0 v1 v2 v3 v4 v5 v6 : PV) : R := G 3 (regAt Tryd.prog call 23 [.b, .b, .a, .a]) (SJ23_3 v0 v1 v2 v3 v4 v5 v6) (behind Tryd.prog H0 G call k 23 [.b, .b, .a, .a] .normal)
theorem J23_5_eq (call : CallF) (k : Nat) (v0 v1 v2 v3 v4 v5 v6 : PV) : J23_5 gate1 call k v0 v1 v2 v3 v4 v5 v6 =
  let c5 := call 49 [AO.pv (Ty.int IntKind.i64) v1]
  bif okRes (Ty.int IntKind.i64) c5 then
    let c6 := call 50 [AO.pv (Ty.int IntKind.i64) (PV.int IntKind.i64 (IntKind.i64.wrap ((resPV c5).toInt - 1))), AO.pv (Ty.int IntKind.i64) v2]
    bif okRes (Ty.st 25) c6 then
      some ([AO.pv (Ty.st 25) (PV.agg [(resPV c6).cell 0, (resPV c6).cell 1])], [])
    else
      none
  else
    none := by rw [J23_5, gate1_app]; kernel_rfl
theorem J23_3_eq (call : CallF) (k : Nat) (v0 v1 v2 v3 v4 v5 v6 : PV) : J23_3 gate1 call k v0 v1 v2 v3 v4 v5 v6 =
  bif v0.toStr.data.toList == (ByteArray.mk #[102, 105, 120]).data.toList then
    let c2 := call 49 [AO.pv (Ty.int IntKind.i64) (PV.int IntKind.i64 (IntKind.i64.wrap (v1.toInt + v2.toInt)))]
    bif okRes (Ty.int IntKind.i64) c2 then
      let c3 := call 49 [AO.pv (Ty.int IntKind.i64) v2]
      bif okRes (Ty.int IntKind.i64) c3 then
        let c4 := call 46 [AO.pv (Ty.int IntKind.i64) (PV.int IntKind.i64 (IntKind.i64.wrap ((resPV c2).toInt - 1))), AO.pv (Ty.int IntKind.i64) (resPV c3)]
        bif okRes (Ty.st 25) c4 then
          some ([AO.pv (Ty.st 25) (PV.agg [(resPV c4).cell 0, (resPV c4).cell 1])], [])
        else
          none
      else
        none
    else
      none
  else
    J23_5 gate1 call k (v0) (v1) (v2) (v3) (v4) (v5) (v6) := by rw [J23_3, gate1_app]; kernel_rfl
theorem R23 (call : CallF) (k : Nat) (x0 : PV) : evStep Tryd.prog H0 call k 23 [AO.pv (Ty.st 23) x0] =
  let c0 := call 21 [AO.pv (Ty.st 23) (PV.agg [x0.cell 0, x0.cell 1, x0.cell 2, x0.cell 3, x0.cell 4])]
  bif okRes Ty.bool c0 then
    bif !(resPV c0).toBool then
      let c1 := call 48 []
      bif okRes (Ty.st 25) c1 then
        some ([AO.pv (Ty.st 25) (PV.agg [(resPV c1).cell 0, (resPV c1).cell 1])], [])
      else
        none
    else
      J23_3 gate1 call k (x0.cell 0) (x0.cell 1) (x0.cell 2) (x0.cell 3) (x0.cell 4) (PV.int IntKind.i64 0) (PV.int IntKind.i64 0)
  else
    none := by rw [evStep_eq]; kernel_rfl
def SJ25_3 (v0 v1 v2 v3 v4 v5 v6 : PV) : St := [dd, AV.o (AO.box 23 [AO.pv Ty.str v0, AO.pv (Ty.int IntKind.i64) v1, AO.pv (Ty.int IntKind.i64) v2, AO.pv Ty.str v3, AO.pv Ty.str v4]), AV.o (AO.box 25 [AO.pv (Ty.int IntKind.i64) v5, AO.pv (Ty.int IntKind.i64) v6]), dd, dd, dd, dd, dd, dd, dd, dd]
noncomputable def J25_3 (G : Gate) (call : CallF) (k : Nat) (v0 v1 v2 v3 v4 v5 v6 : PV) : R := G 3 (regAt Tryd.prog call 25 [.b, .b, .a]) (SJ25_3 v0 v1 v2 v3 v4 v5 v6) (behind Tryd.prog H0 G call k 25 [.b, .b, .a] .normal)
theorem J25_3_eq (call : CallF) (k : Nat) (v0 v1 v2 v3 v4 v5 v6 : PV) : J25_3 gate1 call k v0 v1 v2 v3 v4 v5 v6 =
  let c2 := call 49 [AO.pv (Ty.int IntKind.i64) v2]
  bif okRes (Ty.int IntKind.i64) c2 then
    let c3 := call 46 [AO.pv (Ty.int IntKind.i64) (PV.int IntKind.i64 1), AO.pv (Ty.int IntKind.i64) (resPV c2)]
    bif okRes (Ty.st 25) c3 then
      some ([AO.pv (Ty.st 25) (PV.agg [(resPV c3).cell 0, (resPV c3).cell 1])], [])
    else
      none
  else
    none := by rw [J25_3, gate1_app]; kernel_rfl
theorem R25 (call : CallF) (k : Nat) (x0 : PV) : evStep Tryd.prog H0 call k 25 [AO.pv (Ty.st 23) x0] =
  let c0 := call 21 [AO.pv (Ty.st 23) (PV.agg [x0.cell 0, x0.cell 1, x0.cell 2, x0.cell 3, x0.cell 4])]
  bif okRes Ty.bool c0 then
    bif !(resPV c0).toBool then
      let c1 := call 48 []
      bif okRes (Ty.st 25) c1 then
        some ([AO.pv (Ty.st 25) (PV.agg [(resPV c1).cell 0, (resPV c1).cell 1])], [])
      else
        none
    else
      J25_3 gate1 call k (x0.cell 0) (x0.cell 1) (x0.cell 2) (x0.cell 3) (x0.cell 4) (PV.int IntKind.i64 0) (PV.int IntKind.i64 0)
  else
    none := by rw [evStep_eq]; kernel_rfl
def SJ26_2 (v0 v1 v2 v3 v4 v5 v6 v7 v8 v9 : PV) : St := [dd, dd, AV.o (AO.box 23 [AO.pv Ty.str v0, AO.pv (Ty.int IntKind.i64) v1, AO.pv (Ty.int IntKind.i64) v2, AO.pv Ty.str v3, AO.pv Ty.str v4]), AV.o (AO.box 25 [AO.pv (Ty.int IntKind.i64) v5, AO.pv (Ty.int IntKind.i64) v6]), AV.o (AO.box 25 [AO.pv (Ty.int IntKind.i64) v7, AO.pv (Ty.int IntKind.i64) v8]), dd, dd, dd, dd, dd, dd, dd, AV.o (AO.pv Ty.bool v9), dd, dd, dd, dd, dd]
noncomputable def J26_2 (G : Gate) (call : CallF) (k : Nat) (v0 v1 v2 v3 v4 v5 v6 v7 v8 v9 : PV) : R := G 2 (regAt Tryd.prog call 26 [.b, .a, .b, .x, .a]) (SJ26_2 v0 v1 v2 v3 v4 v5 v6 v7 v8 v9) (behind Tryd.prog H0 G call k 26 [.b, .a, .b, .x, .a] .normal)
def SJ26_3 (v0 v1 v2 v3 v4 v5 v6 v7 v8 : PV) : St := [dd, dd, AV.o (AO.box 23 [AO.pv Ty.str v0, AO.pv (Ty.int IntKind.i64) v1, AO.pv (Ty.int IntKind.i64) v2, AO.pv Ty.str v3, AO.pv Ty.str v4]), AV.o (AO.box 25 [AO.pv (Ty.int IntKind.i64) v5, AO.pv (Ty.int IntKind.i64) v6]), AV.o (AO.box 25 [AO.pv (Ty.int IntKind.i64) v7, AO.pv (Ty.int IntKind.i64) v8]), dd, dd, dd, dd, dd, dd, dd, dd, dd, dd, dd, dd, dd]
noncomputable def J26_3 (G : Gate) (call : CallF) (k : Nat) (v0 v1 v2 v3 v4 v5 v6 v7 v8 : PV) : R := G 3 (regAt Tryd.prog call 26 [.b, .b, .a]) (SJ26_3 v0 v1 v2 v3 v4 v5 v6 v7 v8) (behind Tryd.prog H0 G call k 26 [.b, .b, .a] .normal)
theorem J26_2_eq (call : CallF) (k : Nat) (v0 v1 v2 v3 v4 v5 v6 v7 v8 v9 : PV) : J26_2 gate1 call k v0 v1 v2 v3 v4 v5 v6 v7 v8 v9 =
  let c1 := call 48 []
  bif okRes (Ty.st 25) c1 then
    some ([AO.pv (Ty.st 25) (PV.agg [(resPV c1).cell 0, (resPV c1).cell 1])], [])
  else
    none := by rw [J26_2, gate1_app]; kernel_rfl
theorem J26_3_eq (call : CallF) (k : Nat) (v0 v1 v2 v3 v4 v5 v6 v7 v8 : PV) : J26_3 gate1 call k v0 v1 v2 v3 v4 v5 v6 v7 v8 =
  let c3 := call 52 [AO.pv (Ty.st 25) (PV.agg [v5, v6])]
  bif okRes (Ty.st 63) c3 then
    let c4 := call 51 [AO.pv (Ty.st 23) (PV.agg [v0, v1, v2, v3, v4]), AO.pv (Ty.st 63) (resPV c3)]
    bif okRes (Ty.st 25) c4 then
      some ([AO.pv (Ty.st 25) (PV.agg [(resPV c4).cell 0, (resPV c4).cell 1])], [])
    else
      none
  else
    none := by rw [J26_3, gate1_app]; kernel_rfl
theorem R26 (call : CallF) (k : Nat) (x0 x1 : PV) : evStep Tryd.prog H0 call k 26 [AO.pv (Ty.st 23) x0, AO.pv (Ty.st 25) x1] =
  let c0 := call 21 [AO.pv (Ty.st 23) (PV.agg [x0.cell 0, x0.cell 1, x0.cell 2, x0.cell 3, x0.cell 4])]
  bif okRes Ty.bool c0 then
    bif !(resPV c0).toBool then
      J26_2 gate1 call k (x0.cell 0) (x0.cell 1) (x0.cell 2) (x0.cell 3) (x0.cell 4) (x1.cell 0) (x1.cell 1) (PV.int IntKind.i64 0) (PV.int IntKind.i64 0) (PV.bool true)
    else
      let c2 := call 7 [AO.pv (Ty.st 25) (PV.agg [x1.cell 0, x1.cell 1])]
      bif okRes Ty.bool c2 then
        bif !(resPV c2).toBool then
          J26_2 gate1 call k (x0.cell 0) (x0.cell 1) (x0.cell 2) (x0.cell 3) (x0.cell 4) (x1.cell 0) (x1.cell 1) (PV.int IntKind.i64 0) (PV.int IntKind.i64 0) (PV.bool true)
        else
          J26_3 gate1 call k (x0.cell 0) (x0.cell 1) (x0.cell 2) (x0.cell 3) (x0.cell 4) (x1.cell 0) (x1.cell 1) (PV.int IntKind.i64 0) (PV.int IntKind.i64 0)
      else
        none
  else
    none := by rw [evStep_eq]; kernel_rfl
theorem R27 (call : CallF) (k : Nat) (x0 x1 : PV) : evStep Tryd.prog H0 call k 27 [AO.pv (Ty.st 23) x0, AO.pv (Ty.st 25) x1] =
  let c0 := call 21 [AO.pv (Ty.st 23) (PV.agg [x0.cell 0, x0.cell 1, x0.cell 2, x0.cell 3, x0.cell 4])]
  bif okRes Ty.bool c0 then
    bif (resPV c0).toBool then
      let c1 := call 7 [AO.pv (Ty.st 25) (PV.agg [x1.cell 0, x1.cell 1])]
      bif okRes Ty.bool c1 then
        bif (resPV c0).toBool then
          bif (resPV c1).toBool then
            let c2 := call 26 [AO.pv (Ty.st 23) (PV.agg [x0.cell 0, x0.cell 1, x0.cell 2, x0.cell 3, x0.cell 4]), AO.pv (Ty.st 25) (PV.agg [x1.cell 0, x1.cell 1])]
            bif okRes (Ty.st 25) c2 then
              let c3 := call 9 [AO.pv (Ty.st 25) (resPV c2), AO.pv (Ty.st 25) (PV.agg [x1.cell 0, x1.cell 1])]
              bif okRes (Ty.int IntKind.i64) c3 then
                bif (resPV c1).toBool then
                  some ([AO.pv Ty.bool (PV.bool (eqI ((resPV c3).toInt) (0)))], [])
                else
                  some ([AO.pv Ty.bool (PV.bool false)], [])
              else
                none
            else
              none
          else
            bif (resPV c1).toBool then
              none
            else
              some ([AO.pv Ty.bool (PV.bool false)], [])
        else
          some ([AO.pv Ty.bool (PV.bool false)], [])
      else
        none
    else
      bif (resPV c0).toBool then
        none
      else
        some ([AO.pv Ty.bool (PV.bool false)], [])
  else
    none := by rw [evStep_eq]; kernel_rfl
def SJ28_2 (v0 v1 v2 v3 v4 v5 v6 v7 v8 v9 v10 v11 : PV) : St := [dd, dd, dd, AV.o (AO.box 23 [AO.pv Ty.str v0, AO.pv (Ty.int IntKind.i64) v1, AO.pv (Ty.int IntKind.i64) v2, AO.pv Ty.str v3, AO.pv Ty.str v4]), AV.o (AO.box 25 [AO.pv (Ty.int IntKind.i64) v5, AO.pv (Ty.int IntKind.i64) v6]), AV.o (AO.box 25 [AO.pv (Ty.int IntKind.i64) v7, AO.pv (Ty.int IntKind.i64) v8]), AV.o (AO.box 25 [AO.pv (Ty.int IntKind.i64) v9, AO.pv (Ty.int IntKind.i64) v10]), dd, dd, dd, dd, dd, dd, dd, dd, dd, dd, dd, dd, dd, AV.o (AO.pv Ty.bool v11), dd, dd, dd, dd, dd, dd, dd, dd, dd, dd, dd, dd, dd, dd, dd, dd, dd, dd, dd, dd, dd, dd, dd, dd, dd, dd, dd, dd, dd, dd, dd, dd, dd, dd, dd, dd, dd]
noncomputable def J28_2 (G : Gate) (call : CallF) (k : Nat) (v0 v1 v2 v3 v4 v5 v6 v7 v8 v9 v10 v11 : PV) : R := G 2 (regAt Tryd.prog call 28 [.b, .a, .b, .x, .a]) (SJ28_2 v0 v1 v2 v3 v4 v5 v6 v7 v8 v9 v10 v11) (behind Tryd.prog H0 G call k 28 [.b, .a, .b, .x, .a] .normal)
def SJ28_6 (v0 v1 v2 v3 v4 v5 v6 v7 v8 v9 v10 v11 v12 : PV) : St := [dd, dd, dd, AV.o (AO.box 23 [AO.pv Ty.str v0, AO.pv (Ty.int IntKind.i64) v1, AO.pv (Ty.int IntKind.i64) v2, AO.pv Ty.str v3, AO.pv Ty.str v4]), AV.o (AO.box 25 [AO.pv (Ty.int IntKind.i64) v5, AO.pv (Ty.int IntKind.i64) v6]), AV.o (AO.box 25 [AO.pv (Ty.int IntKind.i64) v7, AO.pv (Ty.int IntKind.i64) v8]), AV.o (AO.box 25 [AO.pv (Ty.int IntKind.i64) v9, AO.pv (Ty.int IntKind.i64) v10]), AV.o (AO.pv (Ty.int IntKind.i64) v11), dd, dd, dd, dd, dd, dd, dd, dd, dd, dd, dd, dd, dd, dd, dd, dd, dd, dd, dd, dd, dd, dd, dd, dd, AV.o (AO.pv (Ty.int IntKind.i64) v12), dd, dd, dd, dd, dd, dd, dd, dd, dd, dd, dd, dd, dd, dd, dd, dd, dd, dd, dd, dd, dd, dd, dd, dd, dd]
noncomputable def J28_6 (G : Gate) (call : CallF) (k : Nat) (v0 v1 v2 v3 v4 v5 v6 v7 v8 v9 v10 v11 v12 : PV) : R := G 6 (regAt Tryd.prog call 28 [.b, .b, .b, .b, .a]) (SJ28_6 v0 v1 v2 v3 v4 v5 v6 v7 v8 v9 v10 v11 v12) (behind Tryd.prog H0 G call k 28 [.b, .b, .b, .b, .a] .normal)
def SJ28_3 (v0 v1 v2 v3 v4 v5 v6 v7 v8 v9 v10 : PV) : St := [dd, dd, dd, AV.o (AO.box 23 [AO.pv Ty.str v0, AO.pv (Ty.int IntKind.i64) v1, AO.pv (Ty.int IntKind.i64) v2, AO.pv Ty.str v3, AO.pv Ty.str v4]), AV.o (AO.box 25 [AO.pv (Ty.int IntKind.i64) v5, AO.pv (Ty.int IntKind.i64) v6]), AV.o (AO.box 25 [AO.pv (Ty.int IntKind.i64) v7, AO.pv (Ty.int IntKind.i64) v8]), AV.o (AO.box 25 [AO.pv (Ty.int IntKind.i64) v9, AO.pv (Ty.int IntKind.i64) v10]), dd, dd, dd, dd, dd, dd, dd, dd, dd, dd, dd, dd, dd, dd, dd, dd, dd, dd, dd, dd, dd, dd, dd, dd, dd, dd, dd, dd, dd, dd, dd, dd, dd, dd, dd, dd, dd, dd, dd, dd, dd, dd, dd, dd, dd, dd, dd, dd, dd, dd, dd]
noncomputable def J28_3 (G : Gate) (call : CallF) (k : Nat) (v0 v1 v2 v3 v4 v5 v6 v7 v8 v9 v10 : PV) : R := G 3 (regAt Tryd.prog call 28 [.b, .b, .a]) (SJ28_3 v0 v1 v2 v3 v4 v5 v6 v7 v8 v9 v10) (behind Tryd.prog H0 G call k 28 [.b, .b, .a] .normal)
theorem J28_2_eq (call : CallF) (k : Nat) (v0 v1 v2 v3 v4 v5 v6 v7 v8 v9 v10 v11 : PV) : J28_2 gate1 call k v0 v1 v2 v3 v4 v5 v6 v7 v8 v9 v10 v11 =
  some ([AO.pv (Ty.st 25) (PV.agg [PV.int IntKind.i64 0, PV.int IntKind.i64 0])], []) := by rw [J28_2, gate1_app]; kernel_rfl
theorem J28_6_eq (call : CallF) (k : Nat) (v0 v1 v2 v3 v4 v5 v6 v7 v8 v9 v10 v11 v12 : PV) : J28_6 gate1 call k v0 v1 v2 v3 v4 v5 v6 v7 v8 v9 v10 v11 v12 =
  let c5 := call 53 [AO.pv Ty.bool (PV.bool false), AO.pv (Ty.int IntKind.u64) (PV.int IntKind.u64 (IntKind.u64.wrap v11.toInt)), AO.pv (Ty.int IntKind.u64) (PV.int IntKind.u64 (IntKind.u64.wrap (IntKind.i64.wrap (v6.toInt * v8.toInt))))]
  bif okRes (Ty.st 51) c5 then
    let c6 := call 36 [AO.pv (Ty.st 23) (PV.agg [v0, v1, v2, v3, v4]), AO.pv (Ty.st 51) (resPV c5)]
    bif okRes (Ty.st 25) c6 then
      some ([AO.pv (Ty.st 25) (PV.agg [(resPV c6).cell 0, (resPV c6).cell 1])], [])
    else
      none
  else
    none := by rw [J28_6, gate1_app]; kernel_rfl
theorem J28_3_eq (call : CallF) (k : Nat) (v0 v1 v2 v3 v4 v5 v6 v7 v8 v9 v10 : PV) : J28_3 gate1 call k v0 v1 v2 v3 v4 v5 v6 v7 v8 v9 v10 =
  bif ltI (IntKind.i64.wrap (IntKind.i64.wrap (v5.toInt * v8.toInt) + IntKind.i64.wrap (v7.toInt * v6.toInt))) (0) then
    let c3 := call 53 [AO.pv Ty.bool (PV.bool true), AO.pv (Ty.int IntKind.u64) (PV.int IntKind.u64 (IntKind.u64.wrap (IntKind.i64.wrap (0 - IntKind.i64.wrap (IntKind.i64.wrap (v5.toInt * v8.toInt) + IntKind.i64.wrap (v7.toInt * v6.toInt)))))), AO.pv (Ty.int IntKind.u64) (PV.int IntKind.u64 (IntKind.u64.wrap (IntKind.i64.wrap (v6.toInt * v8.toInt))))]
    bif okRes (Ty.st 51) c3 then
      let c4 := call 36 [AO.pv (Ty.st 23) (PV.agg [v0, v1, v2, v3, v4]), AO.pv (Ty.st 51) (resPV c3)]
      bif okRes (Ty.st 25) c4 then
        some ([AO.pv (Ty.st 25) (PV.agg [(resPV c4).cell 0, (resPV c4).cell 1])], [])
      else
        none
    else
      none
  else
    J28_6 gate1 call k (v0) (v1) (v2) (v3) (v4) (v5) (v6) (v7) (v8) (v9) (v10) (PV.int IntKind.i64 (IntKind.i64.wrap (IntKind.i64.wrap (v5.toInt * v8.toInt) + IntKind.i64.wrap (v7.toInt * v6.toInt)))) (PV.int IntKind.i64 (IntKind.i64.wrap (IntKind.i64.wrap (v5.toInt * v8.toInt) + IntKind.i64.wrap (v7.toInt * v6.toInt)))) := by rw [J28_3, gate1_app]; kernel_rfl
theorem R28 (call : CallF) (k : Nat) (x0 x1 x2 : PV) : evStep Tryd.prog H0 call k 28 [AO.pv (Ty.st 23) x0, AO.pv (Ty.st 25) x1, AO.pv (Ty.st 25) x2] =
  let c0 := call 16 [AO.pv (Ty.st 23) (PV.agg [x0.cell 0, x0.cell 1, x0.cell 2, x0.cell 3, x0.cell 4])]
  bif okRes Ty.bool c0 then
    bif !(resPV c0).toBool then
      J28_2 gate1 call k (x0.cell 0) (x0.cell 1) (x0.cell 2) (x0.cell 3) (x0.cell 4) (x1.cell 0) (x1.cell 1) (x2.cell 0) (x2.cell 1) (PV.int IntKind.i64 0) (PV.int IntKind.i64 0) (PV.bool true)
    else
      let c1 := call 35 [AO.pv (Ty.st 25) (PV.agg [x1.cell 0, x1.cell 1])]
      bif okRes Ty.bool c1 then
        bif !(resPV c1).toBool then
          J28_2 gate1 call k (x0.cell 0) (x0.cell 1) (x0.cell 2) (x0.cell 3) (x0.cell 4) (x1.cell 0) (x1.cell 1) (x2.cell 0) (x2.cell 1) (PV.int IntKind.i64 0) (PV.int IntKind.i64 0) (PV.bool true)
        else
          let c2 := call 35 [AO.pv (Ty.st 25) (PV.agg [x2.cell 0, x2.cell 1])]
          bif okRes Ty.bool c2 then
            bif !(resPV c2).toBool then
              J28_2 gate1 call k (x0.cell 0) (x0.cell 1) (x0.cell 2) (x0.cell 3) (x0.cell 4) (x1.cell 0) (x1.cell 1) (x2.cell 0) (x2.cell 1) (PV.int IntKind.i64 0) (PV.int IntKind.i64 0) (PV.bool true)
            else
              J28_3 gate1 call k (x0.cell 0) (x0.cell 1) (x0.cell 2) (x0.cell 3) (x0.cell 4) (x1.cell 0) (x1.cell 1) (x2.cell 0) (x2.cell 1) (PV.int IntKind.i64 0) (PV.int IntKind.i64 0)
          else
            none
      else
        none
  else
    none := by rw [evStep_eq]; kernel_rfl
def SJ29_2 (v0 v1 v2 v3 v4 v5 v6 v7 v8 v9 v10 v11 : PV) : St := [dd, dd, dd, AV.o (AO.box 23 [AO.pv Ty.str v0, AO.pv (Ty.int IntKind.i64) v1, AO.pv (Ty.int IntKind.i64) v2, AO.pv Ty.str v3, AO.pv Ty.str v4]), AV.o (AO.box 25 [AO.pv (Ty.int IntKind.i64) v5, AO.pv (Ty.int IntKind.i64) v6]), AV.o (AO.box 25 [AO.pv (Ty.int IntKind.i64) v7, AO.pv (Ty.int IntKind.i64) v8]), AV.o (AO.box 25 [AO.pv (Ty.int IntKind.i64) v9, AO.pv (Ty.int IntKind.i64) v10]), dd, dd, dd, dd, dd, dd, dd, dd, dd, dd, dd, dd, AV.o (AO.pv Ty.bool v11), dd, dd, dd, dd, dd, dd, dd, dd, dd, dd, dd, dd, dd, dd, dd, dd, dd, dd, dd, dd]
noncomputable def J29_2 (G : Gate) (call : CallF) (k : Nat) (v0 v1 v2 v3 v4 v5 v6 v7 v8 v9 v10 v11 : PV) : R := G 2 (regAt Tryd.prog call 29 [.b, .a, .b, .x, .a]) (SJ29_2 v0 v1 v2 v3 v4 v5 v6 v7 v8 v9 v10 v11) (behind Tryd.prog H0 G call k 29 [.b, .a, .b, .x, .a] .normal)
def SJ29_3 (v0 v1 v2 v3 v4 v5 v6 v7 v8 v9 v10 : PV) : St := [dd, dd, dd, AV.o (AO.box 23 [AO.pv Ty.str v0, AO.pv (Ty.int IntKind.i64) v1, AO.pv (Ty.int IntKind.i64) v2, AO.pv Ty.str v3, AO.pv Ty.str v4]), AV.o (AO.box 25 [AO.pv (Ty.int IntKind.i64) v5, AO.pv (Ty.int IntKind.i64) v6]), AV.o (AO.box 25 [AO.pv (Ty.int IntKind.i64) v7, AO.pv (Ty.int IntKind.i64) v8]), AV.o (AO.box 25 [AO.pv (Ty.int IntKind.i64) v9, AO.pv (Ty.int IntKind.i64) v10]), dd, dd, dd, dd, dd, dd, dd, dd, dd, dd, dd, dd, dd, dd, dd, dd, dd, dd, dd, dd, dd, dd, dd, dd, dd, dd, dd, dd, dd, dd, dd, dd, dd]
noncomputable def J29_3 (G : Gate) (call : CallF) (k : Nat) (v0 v1 v2 v3 v4 v5 v6 v7 v8 v9 v10 : PV) : R := G 3 (regAt Tryd.prog call 29 [.b, .b, .a]) (SJ29_3 v0 v1 v2 v3 v4 v5 v6 v7 v8 v9 v10) (behind Tryd.prog H0 G call k 29 [.b, .b, .a] .normal)
theorem J29_2_eq (call : CallF) (k : Nat) (v0 v1 v2 v3 v4 v5 v6 v7 v8 v9 v10 v11 : PV) : J29_2 gate1 call k v0 v1 v2 v3 v4 v5 v6 v7 v8 v9 v10 v11 =
  let c1 := call 48 []
  bif okRes (Ty.st 25) c1 then
    some ([AO.pv (Ty.st 25) (PV.agg [(resPV c1).cell 0, (resPV c1).cell 1])], [])
  else
    none := by rw [J29_2, gate1_app]; kernel_rfl
theorem J29_3_eq (call : CallF) (k : Nat) (v0 v1 v2 v3 v4 v5 v6 v7 v8 v9 v10 : PV) : J29_3 gate1 call k v0 v1 v2 v3 v4 v5 v6 v7 v8 v9 v10 =
  let c4 := call 51 [AO.pv (Ty.st 23) (PV.agg [v0, v1, v2, v3, v4]), AO.pv (Ty.st 63) (PV.agg (buildCells (PV.agg [PV.int IntKind.i64 0, PV.int IntKind.i64 0]).cells [(0, bif isAggTy (Ty.int IntKind.i64) then cellsFrom (PV.int IntKind.i64 (IntKind.i64.wrap (IntKind.i64.wrap (v5.toInt * v8.toInt) + IntKind.i64.wrap (v7.toInt * v6.toInt)))) 0 1 else [PV.int IntKind.i64 (IntKind.i64.wrap (IntKind.i64.wrap (v5.toInt * v8.toInt) + IntKind.i64.wrap (v7.toInt * v6.toInt)))]), (1, bif isAggTy (Ty.int IntKind.i64) then cellsFrom (PV.int IntKind.i64 (IntKind.i64.wrap (v6.toInt * v8.toInt))) 0 1 else [PV.int IntKind.i64 (IntKind.i64.wrap (v6.toInt * v8.toInt))])]))]
  bif okRes (Ty.st 25) c4 then
    some ([AO.pv (Ty.st 25) (PV.agg [(resPV c4).cell 0, (resPV c4).cell 1])], [])
  else
    none := by rw [J29_3, gate1_app]; kernel_rfl
theorem R29 (call : CallF) (k : Nat) (x0 x1 x2 : PV) : evStep Tryd.prog H0 call k 29 [AO.pv (Ty.st 23) x0, AO.pv (Ty.st 25) x1, AO.pv (Ty.st 25) x2] =
  let c0 := call 21 [AO.pv (Ty.st 23) (PV.agg [x0.cell 0, x0.cell 1, x0.cell 2, x0.cell 3, x0.cell 4])]
  bif okRes Ty.bool c0 then
    bif !(resPV c0).toBool then
      J29_2 gate1 call k (x0.cell 0) (x0.cell 1) (x0.cell 2) (x0.cell 3) (x0.cell 4) (x1.cell 0) (x1.cell 1) (x2.cell 0) (x2.cell 1) (PV.int IntKind.i64 0) (PV.int IntKind.i64 0) (PV.bool true)
    else
      let c2 := call 7 [AO.pv (Ty.st 25) (PV.agg [x1.cell 0, x1.cell 1])]
      bif okRes Ty.bool c2 then
        bif !(resPV c2).toBool then
          J29_2 gate1 call k (x0.cell 0) (x0.cell 1) (x0.cell 2) (x0.cell 3) (x0.cell 4) (x1.cell 0) (x1.cell 1) (x2.cell 0) (x2.cell 1) (PV.int IntKind.i64 0) (PV.int IntKind.i64 0) (PV.bool true)
        else
          let c3 := call 7 [AO.pv (Ty.st 25) (PV.agg [x2.cell 0, x2.cell 1])]
          bif okRes Ty.bool c3 then
            bif !(resPV c3).toBool then
              J29_2 gate1 call k (x0.cell 0) (x0.cell 1) (x0.cell 2) (x0.cell 3) (x0.cell 4) (x1.cell 0) (x1.cell 1) (x2.cell 0) (x2.cell 1) (PV.int IntKind.i64 0) (PV.int IntKind.i64 0) (PV.bool true)
            else
              J29_3 gate1 call k (x0.cell 0) (x0.cell 1) (x0.cell 2) (x0.cell 3) (x0.cell 4) (x1.cell 0) (x1.cell 1) (x2.cell 0) (x2.cell 1) (PV.int IntKind.i64 0) (PV.int IntKind.i64 0)
          else
            none
      else
        none
  else
    none := by rw [evStep_eq]; kernel_rfl
def SJ30_2 (v0 v1 v2 v3 v4 v5 v6 v7 v8 v9 v10 v11 : PV) : St := [dd, dd, dd, AV.o (AO.box 23 [AO.pv Ty.str v0, AO.pv (Ty.int IntKind.i64) v1, AO.pv (Ty.int IntKind.i64) v2, AO.pv Ty.str v3, AO.pv Ty.str v4]), AV.o (AO.box 25 [AO.pv (Ty.int IntKind.i64) v5, AO.pv (Ty.int IntKind.i64) v6]), AV.o (AO.box 25 [AO.pv (Ty.int IntKind.i64) v7, AO.pv (Ty.int IntKind.i64) v8]), AV.o (AO.box 25 [AO.pv (Ty.int IntKind.i64) v9, AO.pv (Ty.int IntKind.i64) v10]), dd, dd, dd, dd, dd, dd, dd, dd, dd, dd, dd, dd, dd, dd, AV.o (AO.pv Ty.bool v11), dd, dd, dd, dd, dd, dd, dd, dd, dd, dd, dd, dd, dd, dd, dd, dd, dd, dd, dd, dd, dd, dd, dd]
noncomputable def J30_2 (G : Gate) (call : CallF) (k : Nat) (v0 v1 v2 v3 v4 v5 v6 v7 v8 v9 v10 v11 : PV) : R := G 2 (regAt Tryd.prog call 30 [.b, .a, .b, .x, .a]) (SJ30_2 v0 v1 v2 v3 v4 v5 v6 v7 v8 v9 v10 v11) (behind Tryd.prog H0 G call k 30 [.b, .a, .b, .x, .a] .normal)
def SJ30_3 (v0 v1 v2 v3 v4 v5 v6 v7 v8 v9 v10 : PV) : St := [dd, dd, dd, AV.o (AO.box 23 [AO.pv Ty.str v0, AO.pv (Ty.int IntKind.i64) v1, AO.pv (Ty.int IntKind.i64) v2, AO.pv Ty.str v3, AO.pv Ty.str v4]), AV.o (AO.box 25 [AO.pv (Ty.int IntKind.i64) v5, AO.pv (Ty.int IntKind.i64) v6]), AV.o (AO.box 25 [AO.pv (Ty.int IntKind.i64) v7, AO.pv (Ty.int IntKind.i64) v8]), AV.o (AO.box 25 [AO.pv (Ty.int IntKind.i64) v9, AO.pv (Ty.int IntKind.i64) v10]), dd, dd, dd, dd, dd, dd, dd, dd, dd, dd, dd, dd, dd, dd, dd, dd, dd, dd, dd, dd, dd, dd, dd, dd, dd, dd, dd, dd, dd, dd, dd, dd, dd, dd, dd, dd, dd, dd]
noncomputable def J30_3 (G : Gate) (call : CallF) (k : Nat) (v0 v1 v2 v3 v4 v5 v6 v7 v8 v9 v10 : PV) : R := G 3 (regAt Tryd.prog call 30 [.b, .b, .a]) (SJ30_3 v0 v1 v2 v3 v4 v5 v6 v7 v8 v9 v10) (behind Tryd.prog H0 G call k 30 [.b, .b, .a] .normal)
theorem J30_2_eq (call : CallF) (k : Nat) (v0 v1 v2 v3 v4 v5 v6 v7 v8 v9 v10 v11 : PV) : J30_2 gate1 call k v0 v1 v2 v3 v4 v5 v6 v7 v8 v9 v10 v11 =
  some ([AO.pv (Ty.st 25) (PV.agg [PV.int IntKind.i64 0, PV.int IntKind.i64 0])], []) := by rw [J30_2, gate1_app]; kernel_rfl
theorem J30_3_eq (call : CallF) (k : Nat) (v0 v1 v2 v3 v4 v5 v6 v7 v8 v9 v10 : PV) : J30_3 gate1 call k v0 v1 v2 v3 v4 v5 v6 v7 v8 v9 v10 =
  let c3 := call 37 [AO.pv (Ty.st 25) (PV.agg [v5, v6])]
  bif okRes (Ty.st 51) c3 then
    let c4 := call 37 [AO.pv (Ty.st 25) (PV.agg [v7, v8])]
    bif okRes (Ty.st 51) c4 then
      let c5 := call 53 [AO.pv Ty.bool (PV.bool !((resPV c3).cell 0).toBool == ((resPV c4).cell 0).toBool), AO.pv (Ty.int IntKind.u64) (PV.int IntKind.u64 (IntKind.u64.wrap (((resPV c3).cell 1).toInt * ((resPV c4).cell 1).toInt))), AO.pv (Ty.int IntKind.u64) (PV.int IntKind.u64 (IntKind.u64.wrap (((resPV c3).cell 2).toInt * ((resPV c4).cell 2).toInt)))]
      bif okRes (Ty.st 51) c5 then
        let c6 := call 36 [AO.pv (Ty.st 23) (PV.agg [v0, v1, v2, v3, v4]), AO.pv (Ty.st 51) (resPV c5)]
        bif okRes (Ty.st 25) c6 then
          some ([AO.pv (Ty.st 25) (PV.agg [(resPV c6).cell 0, (resPV c6).cell 1])], [])
        else
          none
      else
        none
    else
      none
  else
    none := by rw [J30_3, gate1_app]; kernel_rfl
theorem R30 (call : CallF) (k : Nat) (x0 x1 x2 : PV) : evStep Tryd.prog H0 call k 30 [AO.pv (Ty.st 23) x0, AO.pv (Ty.st 25) x1, AO.pv (Ty.st 25) x2] =
  let c0 := call 16 [AO.pv (Ty.st 23) (PV.agg [x0.cell 0, x0.cell 1, x0.cell 2, x0.cell 3, x0.cell 4])]
  bif okRes Ty.bool c0 then
    bif !(resPV c0).toBool then
      J30_2 gate1 call k (x0.cell 0) (x0.cell 1) (x0.cell 2) (x0.cell 3) (x0.cell 4) (x1.cell 0) (x1.cell 1) (x2.cell 0) (x2.cell 1) (PV.int IntKind.i64 0) (PV.int IntKind.i64 0) (PV.bool true)
    else
      let c1 := call 35 [AO.pv (Ty.st 25) (PV.agg [x1.cell 0, x1.cell 1])]
      bif okRes Ty.bool c1 then
        bif !(resPV c1).toBool then
          J30_2 gate1 call k (x0.cell 0) (x0.cell 1) (x0.cell 2) (x0.cell 3) (x0.cell 4) (x1.cell 0) (x1.cell 1) (x2.cell 0) (x2.cell 1) (PV.int IntKind.i64 0) (PV.int IntKind.i64 0) (PV.bool true)
        else
          let c2 := call 35 [AO.pv (Ty.st 25) (PV.agg [x2.cell 0, x2.cell 1])]
          bif okRes Ty.bool c2 then
            bif !(resPV c2).toBool then
              J30_2 gate1 call k (x0.cell 0) (x0.cell 1) (x0.cell 2) (x0.cell 3) (x0.cell 4) (x1.cell 0) (x1.cell 1) (x2.cell 0) (x2.cell 1) (PV.int IntKind.i64 0) (PV.int IntKind.i64 0) (PV.bool true)
            else
              J30_3 gate1 call k (x0.cell 0) (x0.cell 1) (x0.cell 2) (x0.cell 3) (x0.cell 4) (x1.cell 0) (x1.cell 1) (x2.cell 0) (x2.cell 1) (PV.int IntKind.i64 0) (PV.int IntKind.i64 0)
          else
            none
      else
        none
  else
    none := by rw [evStep_eq]; kernel_rfl
def SJ31_2 (v0 v1 v2 v3 v4 v5 v6 v7 v8 v9 v10 v11 : PV) : St := [dd, dd, dd, AV.o (AO.box 23 [AO.pv Ty.str v0, AO.pv (Ty.int IntKind.i64) v1, AO.pv (Ty.int IntKind.i64) v2, AO.pv Ty.str v3, AO.pv Ty.str v4]), AV.o (AO.box 25 [AO.pv (Ty.int IntKind.i64) v5, AO.pv (Ty.int IntKind.i64) v6]), AV.o (AO.box 25 [AO.pv (Ty.int IntKind.i64) v7, AO.pv (Ty.int IntKind.i64) v8]), AV.o (AO.box 25 [AO.pv (Ty.int IntKind.i64) v9, AO.pv (Ty.int IntKind.i64) v10]), dd, dd, dd, dd, dd, dd, dd, dd, dd, dd, dd, dd, AV.o (AO.pv Ty.bool v11), dd, dd, dd, dd, dd, dd, dd, dd, dd, dd, dd, dd, dd, dd]
noncomputable def J31_2 (G : Gate) (call : CallF) (k : Nat) (v0 v1 v2 v3 v4 v5 v6 v7 v8 v9 v10 v11 : PV) : R := G 2 (regAt Tryd.prog call 31 [.b, .a, .b, .x, .a]) (SJ31_2 v0 v1 v2 v3 v4 v5 v6 v7 v8 v9 v10 v11) (behind Tryd.prog H0 G call k 31 [.b, .a, .b, .x, .a] .normal)
def SJ31_3 (v0 v1 v2 v3 v4 v5 v6 v7 v8 v9 v10 : PV) : St := [dd, dd, dd, AV.o (AO.box 23 [AO.pv Ty.str v0, AO.pv (Ty.int IntKind.i64) v1, AO.pv (Ty.int IntKind.i64) v2, AO.pv Ty.str v3, AO.pv Ty.str v4]), AV.o (AO.box 25 [AO.pv (Ty.int IntKind.i64) v5, AO.pv (Ty.int IntKind.i64) v6]), AV.o (AO.box 25 [AO.pv (Ty.int IntKind.i64) v7, AO.pv (Ty.int IntKind.i64) v8]), AV.o (AO.box 25 [AO.pv (Ty.int IntKind.i64) v9, AO.pv (Ty.int IntKind.i64) v10]), dd, dd, dd, dd, dd, dd, dd, dd, dd, dd, dd, dd, dd, dd, dd, dd, dd, dd, dd, dd, dd, dd, dd, dd, dd, dd, dd]
noncomputable def J31_3 (G : Gate) (call : CallF) (k : Nat) (v0 v1 v2 v3 v4 v5 v6 v7 v8 v9 v10 : PV) : R := G 3 (regAt Tryd.prog call 31 [.b, .b, .a]) (SJ31_3 v0 v1 v2 v3 v4 v5 v6 v7 v8 v9 v10) (behind Tryd.prog H0 G call k 31 [.b, .b, .a] .normal)
theorem J31_2_eq (call : CallF) (k : Nat) (v0 v1 v2 v3 v4 v5 v6 v7 v8 v9 v10 v11 : PV) : J31_2 gate1 call k v0 v1 v2 v3 v4 v5 v6 v7 v8 v9 v10 v11 =
  let c1 := call 48 []
  bif okRes (Ty.st 25) c1 then
    some ([AO.pv (Ty.st 25) (PV.agg [(resPV c1).cell 0, (resPV c1).cell 1])], [])
  else
    none := by rw [J31_2, gate1_app]; kernel_rfl
theorem J31_3_eq (call : CallF) (k : Nat) (v0 v1 v2 v3 v4 v5 v6 v7 v8 v9 v10 : PV) : J31_3 gate1 call k v0 v1 v2 v3 v4 v5 v6 v7 v8 v9 v10 =
  let c4 := call 51 [AO.pv (Ty.st 23) (PV.agg [v0, v1, v2, v3, v4]), AO.pv (Ty.st 63) (PV.agg (buildCells (PV.agg [PV.int IntKind.i64 0, PV.int IntKind.i64 0]).cells [(0, bif isAggTy (Ty.int IntKind.i64) then cellsFrom (PV.int IntKind.i64 (IntKind.i64.wrap (v5.toInt * v7.toInt))) 0 1 else [PV.int IntKind.i64 (IntKind.i64.wrap (v5.toInt * v7.toInt))]), (1, bif isAggTy (Ty.int IntKind.i64) then cellsFrom (PV.int IntKind.i64 (IntKind.i64.wrap (v6.toInt * v8.toInt))) 0 1 else [PV.int IntKind.i64 (IntKind.i64.wrap (v6.toInt * v8.toInt))])]))]
  bif okRes (Ty.st 25) c4 then
    some ([AO.pv (Ty.st 25) (PV.agg [(resPV c4).cell 0, (resPV c4).cell 1])], [])
  else
    none := by rw [J31_3, gate1_app]; kernel_rfl
theorem R31 (call : CallF) (k : Nat) (x0 x1 x2 : PV) : evStep Tryd.prog H0 call k 31 [AO.pv (Ty.st 23) x0, AO.pv (Ty.st 25) x1, AO.pv (Ty.st 25) x2] =
  let c0 := call 21 [AO.pv (Ty.st 23) (PV.agg [x0.cell 0, x0.cell 1, x0.cell 2, x0.cell 3, x0.cell 4])]
  bif okRes Ty.bool c0 then
    bif !(resPV c0).toBool then
      J31_2 gate1 call k (x0.cell 0) (x0.cell 1) (x0.cell 2) (x0.cell 3) (x0.cell 4) (x1.cell 0) (x1.cell 1) (x2.cell 0) (x2.cell 1) (PV.int IntKind.i64 0) (PV.int IntKind.i64 0) (PV.bool true)
    else
      let c2 := call 7 [AO.pv (Ty.st 25) (PV.agg [x1.cell 0, x1.cell 1])]
      bif okRes Ty.bool c2 then
        bif !(resPV c2).toBool then
          J31_2 gate1 call k (x0.cell 0) (x0.cell 1) (x0.cell 2) (x0.cell 3) (x0.cell 4) (x1.cell 0) (x1.cell 1) (x2.cell 0) (x2.cell 1) (PV.int IntKind.i64 0) (PV.int IntKind.i64 0) (PV.bool true)
        else
          let c3 := call 7 [AO.pv (Ty.st 25) (PV.agg [x2.cell 0, x2.cell 1])]
          bif okRes Ty.bool c3 then
            bif !(resPV c3).toBool then
              J31_2 gate1 call k (x0.cell 0) (x0.cell 1) (x0.cell 2) (x0.cell 3) (x0.cell 4) (x1.cell 0) (x1.cell 1) (x2.cell 0) (x2.cell 1) (PV.int IntKind.i64 0) (PV.int IntKind.i64 0) (PV.bool true)
            else
              J31_3 gate1 call k (x0.cell 0) (x0.cell 1) (x0.cell 2) (x0.cell 3) (x0.cell 4) (x1.cell 0) (x1.cell 1) (x2.cell 0) (x2.cell 1) (PV.int IntKind.i64 0) (PV.int IntKind.i64 0)
          else
            none
      else
        none
  else
    none := by rw [evStep_eq]; kernel_rfl
def SJ32_2 (v0 v1 v2 v3 v4 v5 v6 v7 : PV) : St := [dd, AV.o (AO.box 23 [AO.pv Ty.str v0, AO.pv (Ty.int IntKind.i64) v1, AO.pv (Ty.int IntKind.i64) v2, AO.pv Ty.str v3, AO.pv Ty.str v4]), AV.o (AO.box 25 [AO.pv (Ty.int IntKind.i64) v5, AO.pv (Ty.int IntKind.i64) v6]), dd, dd, dd, dd, dd, dd, dd, dd, AV.o (AO.pv Ty.bool v7), dd, dd, dd, dd, dd, dd, dd, dd, dd, dd]
noncomputable def J32_2 (G : Gate) (call : CallF) (k : Nat) (v0 v1 v2 v3 v4 v5 v6 v7 : PV) : R := G 2 (regAt Tryd.prog call 32 [.b, .a, .b, .x, .a]) (SJ32_2 v0 v1 v2 v3 v4 v5 v6 v7) (behind Tryd.prog H0 G call k 32 [.b, .a, .b, .x, .a] .normal)
def SJ32_5 (v0 v1 v2 v3 v4 v5 v6 : PV) : St := [dd, AV.o (AO.box 23 [AO.pv Ty.str v0, AO.pv (Ty.int IntKind.i64) v1, AO.pv (Ty.int IntKind.i64) v2, AO.pv Ty.str v3, AO.pv Ty.str v4]), AV.o (AO.box 25 [AO.pv (Ty.int IntKind.i64) v5, AO.pv (Ty.int IntKind.i64) v6]), dd, dd, dd, dd, dd, dd, dd, dd, dd, dd, dd, dd, dd, dd, dd, dd, dd, dd, dd]
noncomputable def J32_5 (G : Gate) (call : CallF) (k : Nat) (v0 v1 v2 v3 v4 v5 v6 : PV) : R := G 5 (regAt Tryd.prog call 32 [.b, .b, .b, .a]) (SJ32_5 v0 v1 v2 v3 v4 v5 v6) (behind Tryd.prog H0 G call k 32 [.b, .b, .b, .a] .normal)
def SJ32_3 (v0 v1 v2 v3 v4 v5 v6 : PV) : St := [dd, AV.o (AO.box 23 [AO.pv Ty.str v0, AO.pv (Ty.int IntKind.i64) v1, AO.pv (Ty.int IntKind.i64) v2, AO.pv Ty.str v3, AO.pv Ty.str v4]), AV.o (AO.box 25 [AO.pv (Ty.int IntKind.i64) v5, AO.pv (Ty.int IntKind.i64) v6]), dd, dd, dd, dd, dd, dd, dd, dd, dd, dd, dd, dd, dd, dd, dd, dd, dd, dd, dd]
noncomputable def J32_3 (G : Gate) (call : CallF) (k : Nat) (v0 v1 v2 v3 v4 v5 v6 : PV) : R := G 3 (regAt Tryd.prog call 32 [.b, .b, .a, .a]) (SJ32_3 v0 v1 v2 v3 v4 v5 v6) (behind Tryd.prog H0 G call k 32 [.b, .b, .a, .a] .normal)
theorem J32_2_eq (call : CallF) (k : Nat) (v0 v1 v2 v3 v4 v5 v6 v7 : PV) : J32_2 gate1 call k v0 v1 v2 v3 v4 v5 v6 v7 =
  let c1 := call 48 []
  bif okRes (Ty.st 25) c1 then
    some ([AO.pv (Ty.st 25) (PV.agg [(resPV c1).cell 0, (resPV c1).cell 1]), AO.pv (Ty.int IntKind.i64) (PV.int IntKind.i64 2)], [])
  else
    none := by rw [J32_2, gate1_app]; kernel_rfl
theorem J32_5_eq (call : CallF) (k : Nat) (v0 v1 v2 v3 v4 v5 v6 : PV) : J32_5 gate1 call k v0 v1 v2 v3 v4 v5 v6 =
  let c5 := call 25 [AO.pv (Ty.st 23) (PV.agg [v0, v1, v2, v3, v4])]
  bif okRes (Ty.st 25) c5 then
    some ([AO.pv (Ty.st 25) (PV.agg [(resPV c5).cell 0, (resPV c5).cell 1]), AO.pv (Ty.int IntKind.i64) (PV.int IntKind.i64 0)], [])
  else
    none := by rw [J32_5, gate1_app]; kernel_rfl
theorem J32_3_eq (call : CallF) (k : Nat) (v0 v1 v2 v3 v4 v5 v6 : PV) : J32_3 gate1 call k v0 v1 v2 v3 v4 v5 v6 =
  bif v3.toStr.data.toList == (ByteArray.mk #[110, 101, 97, 114]).data.toList then
    let c2 := call 25 [AO.pv (Ty.st 23) (PV.agg [v0, v1, v2, v3, v4])]
    bif okRes (Ty.st 25) c2 then
      let c3 := call 17 [AO.pv (Ty.int IntKind.i64) (PV.int IntKind.i64 2)]
      bif okRes (Ty.st 25) c3 then
        let c4 := call 54 [AO.pv (Ty.st 25) (resPV c2), AO.pv (Ty.st 25) (resPV c3)]
        bif okRes (Ty.st 25) c4 then
          some ([AO.pv (Ty.st 25) (PV.agg [(resPV c4).cell 0, (resPV c4).cell 1]), AO.pv (Ty.int IntKind.i64) (PV.int IntKind.i64 0)], [])
        else
          none
      else
        none
    else
      none
  else
    J32_5 gate1 call k (v0) (v1) (v2) (v3) (v4) (v5) (v6) := by rw [J32_3, gate1_app]; kernel_rfl
theorem R32 (call : CallF) (k : Nat) (x0 : PV) : evStep Tryd.prog H0 call k 32 [AO.pv (Ty.st 23) x0] =
  let c0 := call 21 [AO.pv (Ty.st 23) (PV.agg [x0.cell 0, x0.cell 1, x0.cell 2, x0.cell 3, x0.cell 4])]
  bif okRes Ty.bool c0 then
    bif !(resPV c0).toBool then
      J32_2 gate1 call k (x0.cell 0) (x0.cell 1) (x0.cell 2) (x0.cell 3) (x0.cell 4) (PV.int IntKind.i64 0) (PV.int IntKind.i64 0) (PV.bool true)
    else
      bif !(x0.cell 0).toStr.data.toList == (ByteArray.mk #[102, 105, 120]).data.toList then
        J32_2 gate1 call k (x0.cell 0) (x0.cell 1) (x0.cell 2) (x0.cell 3) (x0.cell 4) (PV.int IntKind.i64 0) (PV.int IntKind.i64 0) (PV.bool true)
      else
        J32_3 gate1 call k (x0.cell 0) (x0.cell 1) (x0.cell 2) (x0.cell 3) (x0.cell 4) (PV.int IntKind.i64 0) (PV.int IntKind.i64 0)
  else
    none := by rw [evStep_eq]; kernel_rfl
def SJ33_2 (v0 v1 v2 v3 v4 v5 v6 v7 : PV) : St := [dd, dd, AV.o (AO.box 23 [AO.pv Ty.str v0, AO.pv (Ty.int IntKind.i64) v1, AO.pv (Ty.int IntKind.i64) v2, AO.pv Ty.str v3, AO.pv Ty.str v4]), AV.o (AO.box 25 [AO.pv (Ty.int IntKind.i64) v5, AO.pv (Ty.int IntKind.i64) v6]), dd, dd, dd, dd, dd, dd, dd, dd, dd, dd, AV.o (AO.pv Ty.bool v7), dd, dd, dd, dd, dd, dd, dd, dd, dd, dd, dd, dd, dd, dd, dd, dd, dd, dd, dd, dd, dd, dd, dd, dd, dd]
noncomputable def J33_2 (G : Gate) (call : CallF) (k : Nat) (v0 v1 v2 v3 v4 v5 v6 v7 : PV) : R := G 2 (regAt Tryd.prog call 33 [.b, .a, .b, .x, .a]) (SJ33_2 v0 v1 v2 v3 v4 v5 v6 v7) (behind Tryd.prog H0 G call k 33 [.b, .a, .b, .x, .a] .normal)
def SJ33_8 (v0 v1 v2 : PV) : St := [dd, dd, dd, dd, dd, dd, AV.o (AO.pv (Ty.int IntKind.i64) v0), dd, dd, dd, dd, dd, dd, dd, dd, dd, dd, dd, dd, dd, dd, dd, dd, dd, dd, dd, dd, AV.o (AO.pv (Ty.int IntKind.i64) v1), dd, dd, dd, dd, dd, dd, dd, dd, dd, dd, AV.o (AO.pv (Ty.int IntKind.i64) v2), dd]
noncomputable def J33_8 (G : Gate) (call : CallF) (k : Nat) (v0 v1 v2 : PV) : R := G 8 (regAt Tryd.prog call 33 [.b, .b, .b, .b, .b, .a]) (SJ33_8 v0 v1 v2) (behind Tryd.prog H0 G call k 33 [.b, .b, .b, .b, .b, .a] .normal)
def SJ33_8s1 (v0 v1 : PV) : St := [dd, dd, dd, dd, dd, dd, AV.o (AO.pv (Ty.int IntKind.i64) v0), dd, dd, dd, dd, dd, dd, dd, dd, dd, dd, dd, dd, dd, dd, dd, dd, dd, dd, dd, dd, AV.o (AO.pv (Ty.int IntKind.i64) v1), dd, dd, dd, dd, dd, dd, dd, dd, dd, dd, dd, dd]
noncomputable def J33_8s1 (G : Gate) (call : CallF) (k : Nat) (v0 v1 : PV) : R := G 8 (regAt Tryd.prog call 33 [.b, .b, .b, .b, .b, .a]) (SJ33_8s1 v0 v1) (behind Tryd.prog H0 G call k 33 [.b, .b, .b, .b, .b, .a] .normal)
def SJ33_5 (v0 v1 v2 v3 v4 v5 v6 : PV) : St := [dd, dd, AV.o (AO.box 23 [AO.pv Ty.str v0, AO.pv (Ty.int IntKind.i64) v1, AO.pv (Ty.int IntKind.i64) v2, AO.pv Ty.str v3, AO.pv Ty.str v4]), AV.o (AO.box 25 [AO.pv (Ty.int IntKind.i64) v5, AO.pv (Ty.int IntKind.i64) v6]), dd, dd, dd, dd, dd, dd, dd, dd, dd, dd, dd, dd, dd, dd, dd, dd, dd, dd, dd, dd, dd, dd, dd, dd, dd, dd, dd, dd, dd, dd, dd, dd, dd, dd, dd, dd]
noncomputable def J33_5 (G : Gate) (call : CallF) (k : Nat) (v0 v1 v2 v3 v4 v5 v6 : PV) : R := G 5 (regAt Tryd.prog call 33 [.b, .b, .b, .a]) (SJ33_5 v0 v1 v2 v3 v4 v5 v6) (behind Tryd.prog H0 G call k 33 [.b, .b, .b, .a] .normal)
def SJ33_3 (v0 v1 v2 v3 v4 v5 v6 : PV) : St := [dd, dd, AV.o (AO.box 23 [AO.pv Ty.str v0, AO.pv (Ty.int IntKind.i64) v1, AO.pv (Ty.int IntKind.i64) v2, AO.pv Ty.str v3, AO.pv Ty.str v4]), AV.o (AO.box 25 [AO.pv (Ty.int IntKind.i64) v5, AO.pv (Ty.int IntKind.i64) v6]), dd, dd, dd, dd, dd, dd, dd, dd, dd, dd, dd, dd, dd, dd, dd, dd, dd, dd, dd, dd, dd, dd, dd, dd, dd, dd, dd, dd, dd, dd, dd, dd, dd, dd, dd, dd]
noncomputable def J33_3 (G : Gate) (call : CallF) (k : Nat) (v0 v1 v2 v3 v4 v5 v6 : PV) : R := G 3 (regAt Tryd.prog call 33 [.b, .b, .a, .a]) (SJ33_3 v0 v1 v2 v3 v4 v5 v6) (behind Tryd.prog H0 G call k 33 [.b, .b, .a, .a] .normal)
theorem J33_2_eq (call : CallF) (k : Nat) (v0 v1 v2 v3 v4 v5 v6 v7 : PV) : J33_2 gate1 call k v0 v1 v2 v3 v4 v5 v6 v7 =
  some ([AO.pv (Ty.int IntKind.i64) (PV.int IntKind.i64 0), AO.pv (Ty.int IntKind.i64) (PV.int IntKind.i64 2)], []) := by rw [J33_2, gate1_app]; kernel_rfl
theorem J33_8_eq (call : CallF) (k : Nat) (v0 v1 v2 : PV) : J33_8 gate1 call k v0 v1 v2 =
  some ([AO.pv (Ty.int IntKind.i64) v0, AO.pv (Ty.int IntKind.i64) (PV.int IntKind.i64 0)], []) := by rw [J33_8, gate1_app]; kernel_rfl
theorem J33_8s1_eq (call : CallF) (k : Nat) (v0 v1 : PV) : J33_8s1 gate1 call k v0 v1 =
  some ([AO.pv (Ty.int IntKind.i64) v0, AO.pv (Ty.int IntKind.i64) (PV.int IntKind.i64 0)], []) := by rw [J33_8s1, gate1_app]; kernel_rfl
theorem J33_5_eq (call : CallF) (k : Nat) (v0 v1 v2 v3 v4 v5 v6 : PV) : J33_5 gate1 call k v0 v1 v2 v3 v4 v5 v6 =
  let c2 := call 49 [AO.pv (Ty.int IntKind.i64) v2]
  bif okRes (Ty.int IntKind.i64) c2 then
    bif eqI (v6.toInt) (0) then
      none
    else
      bif ltI (IntKind.i64.wrap (v5.toInt * IntKind.i64.wrap ((resPV c2).toInt.tdiv v6.toInt))) (0) then
        let c3 := call 49 [AO.pv (Ty.int IntKind.i64) (PV.int IntKind.i64 (IntKind.i64.wrap (IntKind.i64.wrap (v1.toInt + v2.toInt) + 1)))]
        bif okRes (Ty.int IntKind.i64) c3 then
          J33_8 gate1 call k (PV.int IntKind.i64 (IntKind.i64.wrap (IntKind.i64.wrap (v5.toInt * IntKind.i64.wrap ((resPV c2).toInt.tdiv v6.toInt)) + (resPV c3).toInt))) (PV.int IntKind.i64 (IntKind.i64.wrap (v5.toInt * IntKind.i64.wrap ((resPV c2).toInt.tdiv v6.toInt)))) (PV.int IntKind.i64 (IntKind.i64.wrap (IntKind.i64.wrap (v5.toInt * IntKind.i64.wrap ((resPV c2).toInt.tdiv v6.toInt)) + (resPV c3).toInt)))
        else
          none
      else
        J33_8s1 gate1 call k (PV.int IntKind.i64 (IntKind.i64.wrap (v5.toInt * IntKind.i64.wrap ((resPV c2).toInt.tdiv v6.toInt)))) (PV.int IntKind.i64 (IntKind.i64.wrap (v5.toInt * IntKind.i64.wrap ((resPV c2).toInt.tdiv v6.toInt))))
  else
    none := by rw [J33_5, gate1_app]; kernel_rfl
theorem J33_3_eq (call : CallF) (k : Nat) (v0 v1 v2 v3 v4 v5 v6 : PV) : J33_3 gate1 call k v0 v1 v2 v3 v4 v5 v6 =
  let c1 := call 27 [AO.pv (Ty.st 23) (PV.agg [v0, v1, v2, v3, v4]), AO.pv (Ty.st 25) (PV.agg [v5, v6])]
  bif okRes Ty.bool c1 then
    bif !(resPV c1).toBool then
      some ([AO.pv (Ty.int IntKind.i64) (PV.int IntKind.i64 0), AO.pv (Ty.int IntKind.i64) (PV.int IntKind.i64 5)], [])
    else
      J33_5 gate1 call k (v0) (v1) (v2) (v3) (v4) (v5) (v6)
  else
    none := by rw [J33_3, gate1_app]; kernel_rfl
theorem R33 (call : CallF) (k : Nat) (x0 x1 : PV) : evStep Tryd.prog H0 call k 33 [AO.pv (Ty.st 23) x0, AO.pv (Ty.st 25) x1] =
  let c0 := call 21 [AO.pv (Ty.st 23) (PV.agg [x0.cell 0, x0.cell 1, x0.cell 2, x0.cell 3, x0.cell 4])]
  bif okRes Ty.bool c0 then
    bif !(resPV c0).toBool then
      J33_2 gate1 call k (x0.cell 0) (x0.cell 1) (x0.cell 2) (x0.cell 3) (x0.cell 4) (x1.cell 0) (x1.cell 1) (PV.bool true)
    else
      bif !(x0.cell 0).toStr.data.toList == (ByteArray.mk #[102, 105, 120]).data.toList then
        J33_2 gate1 call k (x0.cell 0) (x0.cell 1) (x0.cell 2) (x0.cell 3) (x0.cell 4) (x1.cell 0) (x1.cell 1) (PV.bool true)
      else
        J33_3 gate1 call k (x0.cell 0) (x0.cell 1) (x0.cell 2) (x0.cell 3) (x0.cell 4) (x1.cell 0) (x1.cell 1)
  else
    none := by rw [evStep_eq]; kernel_rfl
def SJ34_2 (v0 v1 v2 v3 v4 v5 v6 v7 v8 : PV) : St := [dd, AV.o (AO.pv (Ty.int IntKind.i64) v0), AV.o (AO.box 23 [AO.pv Ty.str v1, AO.pv (Ty.int IntKind.i64) v2, AO.pv (Ty.int IntKind.i64) v3, AO.pv Ty.str v4, AO.pv Ty.str v5]), dd, AV.o (AO.box 25 [AO.pv (Ty.int IntKind.i64) v6, AO.pv (Ty.int IntKind.i64) v7]), dd, dd, dd, dd, dd, dd, dd, dd, dd, dd, dd, dd, dd, dd, dd, dd, dd, dd, dd, dd, dd, dd, dd, dd, AV.o (AO.pv Ty.bool v8), dd, dd, dd, dd, dd, dd, dd, dd, dd, dd, dd, dd, dd, dd, dd, dd, dd, dd, dd, dd, dd, dd, dd, dd]
noncomputable def J34_2 (G : Gate) (call : CallF) (k : Nat) (v0 v1 v2 v3 v4 v5 v6 v7 v8 : PV) : R := G 2 (regAt Tryd.prog call 34 [.b, .a, .b, .x, .a]) (SJ34_2 v0 v1 v2 v3 v4 v5 v6 v7 v8) (behind Tryd.prog H0 G call k 34 [.b, .a, .b, .x, .a] .normal)
def SJ34_6 (v0 v1 v2 v3 v4 v5 v6 v7 v8 v9 v10 : PV) : St := [dd, AV.o (AO.pv (Ty.int IntKind.i64) v0), AV.o (AO.box 23 [AO.pv Ty.str v1, AO.pv (Ty.int IntKind.i64) v2, AO.pv (Ty.int IntKind.i64) v3, AO.pv Ty.str v4, AO.pv Ty.str v5]), dd, AV.o (AO.box 25 [AO.pv (Ty.int IntKind.i64) v6, AO.pv (Ty.int IntKind.i64) v7]), dd, AV.o (AO.pv (Ty.int IntKind.i64) v8), dd, dd, dd, dd, dd, dd, dd, dd, dd, dd, dd, dd, dd, dd, dd, dd, dd, dd, dd, dd, dd, dd, dd, dd, AV.o (AO.pv (Ty.int IntKind.i64) v9), dd, dd, dd, dd, dd, dd, dd, dd, dd, dd, dd, dd, dd, dd, dd, dd, AV.o (AO.pv (Ty.int IntKind.i64) v10), dd, dd, dd, dd, dd]
noncomputable def J34_6 (G : Gate) (call : CallF) (k : Nat) (v0 v1 v2 v3 v4 v5 v6 v7 v8 v9 v10 : PV) : R := G 6 (regAt Tryd.prog call 34 [.b, .b, .b, .b, .a]) (SJ34_6 v0 v1 v2 v3 v4 v5 v6 v7 v8 v9 v10) (behind Tryd.prog H0 G call k 34 [.b, .b, .b, .b, .a] .normal)
def SJ34_6s1 (v0 v1 v2 v3 v4 v5 v6 v7 v8 v9 : PV) : St := [dd, AV.o (AO.pv (Ty.int IntKind.i64) v0), AV.o (AO.box 23 [AO.pv Ty.str v1, AO.pv (Ty.int IntKind.i64) v2, AO.pv (Ty.int IntKind.i64) v3, AO.pv Ty.str v4, AO.pv Ty.str v5]), dd, AV.o (AO.box 25 [AO.pv (Ty.int IntKind.i64) v6, AO.pv (Ty.int IntKind.i64) v7]), dd, AV.o (AO.pv (Ty.int IntKind.i64) v8), dd, dd, dd, dd, dd, dd, dd, dd, dd, dd, dd, dd, dd, dd, dd, dd, dd, dd, dd, dd, dd, dd, dd, dd, AV.o (AO.pv (Ty.int IntKind.i64) v9), dd, dd, dd, dd, dd, dd, dd, dd, dd, dd, dd, dd, dd, dd, dd, dd, dd, dd, dd, dd, dd, dd]
noncomputable def J34_6s1 (G : Gate) (call : CallF) (k : Nat) (v0 v1 v2 v3 v4 v5 v6 v7 v8 v9 : PV) : R := G 6 (regAt Tryd.prog call 34 [.b, .b, .b, .b, .a]) (SJ34_6s1 v0 v1 v2 v3 v4 v5 v6 v7 v8 v9) (behind Tryd.prog H0 G call k 34 [.b, .b, .b, .b, .a] .normal)
def SJ34_3 (v0 v1 v2 v3 v4 v5 v6 v7 : PV) : St := [dd, AV.o (AO.pv (Ty.int IntKind.i64) v0), AV.o (AO.box 23 [AO.pv Ty.str v1, AO.pv (Ty.int IntKind.i64) v2, AO.pv (Ty.int IntKind.i64) v3, AO.pv Ty.str v4, AO.pv Ty.str v5]), dd, AV.o (AO.box 25 [AO.pv (Ty.int IntKind.i64) v6, AO.pv (Ty.int IntKind.i64) v7]), dd, dd, dd, dd, dd, dd, dd, dd, dd, dd, dd, dd, dd, dd, dd, dd, dd, dd, dd, dd, dd, dd, dd, dd, dd, dd, dd, dd, dd, dd, dd, dd, dd, dd, dd, dd, dd, dd, dd, dd, dd, dd, dd, dd, dd, dd, dd, dd, dd]
noncomputable def J34_3 (G : Gate) (call : CallF) (k : Nat) (v0 v1 v2 v3 v4 v5 v6 v7 : PV) : R := G 3 (regAt Tryd.prog call 34 [.b, .b, .a]) (SJ34_3 v0 v1 v2 v3 v4 v5 v6 v7) (behind Tryd.prog H0 G call k 34 [.b, .b, .a] .normal)
theorem J34_2_eq (call : CallF) (k : Nat) (v0 v1 v2 v3 v4 v5 v6 v7 v8 : PV) : J34_2 gate1 call k v0 v1 v2 v3 v4 v5 v6 v7 v8 =
  let c1 := call 48 []
  bif okRes (Ty.st 25) c1 then
    some ([AO.pv (Ty.st 25) (PV.agg [(resPV c1).cell 0, (resPV c1).cell 1]), AO.pv (Ty.int IntKind.i64) (PV.int IntKind.i64 2)], [])
  else
    none := by rw [J34_2, gate1_app]; kernel_rfl
theorem J34_6_eq (call : CallF) (k : Nat) (v0 v1 v2 v3 v4 v5 v6 v7 v8 v9 v10 : PV) : J34_6 gate1 call k v0 v1 v2 v3 v4 v5 v6 v7 v8 v9 v10 =
  let c5 := call 49 [AO.pv (Ty.int IntKind.i64) v3]
  bif okRes (Ty.int IntKind.i64) c5 then
    let c6 := call 46 [AO.pv (Ty.int IntKind.i64) v8, AO.pv (Ty.int IntKind.i64) (resPV c5)]
    bif okRes (Ty.st 25) c6 then
      some ([AO.pv (Ty.st 25) (PV.agg [(resPV c6).cell 0, (resPV c6).cell 1]), AO.pv (Ty.int IntKind.i64) (PV.int IntKind.i64 0)], [])
    else
      none
  else
    none := by rw [J34_6, gate1_app]; kernel_rfl
theorem J34_6s1_eq (call : CallF) (k : Nat) (v0 v1 v2 v3 v4 v5 v6 v7 v8 v9 : PV) : J34_6s1 gate1 call k v0 v1 v2 v3 v4 v5 v6 v7 v8 v9 =
  let c7 := call 49 [AO.pv (Ty.int IntKind.i64) v3]
  bif okRes (Ty.int IntKind.i64) c7 then
    let c8 := call 46 [AO.pv (Ty.int IntKind.i64) v8, AO.pv (Ty.int IntKind.i64) (resPV c7)]
    bif okRes (Ty.st 25) c8 then
      some ([AO.pv (Ty.st 25) (PV.agg [(resPV c8).cell 0, (resPV c8).cell 1]), AO.pv (Ty.int IntKind.i64) (PV.int IntKind.i64 0)], [])
    else
      none
  else
    none := by rw [J34_6s1, gate1_app]; kernel_rfl
theorem J34_3_eq (call : CallF) (k : Nat) (v0 v1 v2 v3 v4 v5 v6 v7 : PV) : J34_3 gate1 call k v0 v1 v2 v3 v4 v5 v6 v7 =
  let c3 := call 49 [AO.pv (Ty.int IntKind.i64) (PV.int IntKind.i64 (IntKind.i64.wrap (v2.toInt + v3.toInt)))]
  bif okRes (Ty.int IntKind.i64) c3 then
    bif leI ((resPV c3).toInt) (v0.toInt) then
      let c4 := call 49 [AO.pv (Ty.int IntKind.i64) (PV.int IntKind.i64 (IntKind.i64.wrap (IntKind.i64.wrap (v2.toInt + v3.toInt) + 1)))]
      bif okRes (Ty.int IntKind.i64) c4 then
        J34_6 gate1 call k (v0) (v1) (v2) (v3) (v4) (v5) (v6) (v7) (PV.int IntKind.i64 (IntKind.i64.wrap (v0.toInt - (resPV c4).toInt))) (v0) (PV.int IntKind.i64 (IntKind.i64.wrap (v0.toInt - (resPV c4).toInt)))
      else
        none
    else
      J34_6s1 gate1 call k (v0) (v1) (v2) (v3) (v4) (v5) (v6) (v7) (v0) (v0)
  else
    none := by rw [J34_3, gate1_app]; kernel_rfl
theorem R34 (call : CallF) (k : Nat) (x0 x1 : PV) : evStep Tryd.prog H0 call k 34 [AO.pv (Ty.st 23) x0, AO.pv (Ty.int IntKind.i64) x1] =
  let c0 := call 21 [AO.pv (Ty.st 23) (PV.agg [x0.cell 0, x0.cell 1, x0.cell 2, x0.cell 3, x0.cell 4])]
  bif okRes Ty.bool c0 then
    bif !(resPV c0).toBool then
      J34_2 gate1 call k (x1) (x0.cell 0) (x0.cell 1) (x0.cell 2) (x0.cell 3) (x0.cell 4) (PV.int IntKind.i64 0) (PV.int IntKind.i64 0) (PV.bool true)
    else
      bif !(x0.cell 0).toStr.data.toList == (ByteArray.mk #[102, 105, 120]).data.toList then
        J34_2 gate1 call k (x1) (x0.cell 0) (x0.cell 1) (x0.cell 2) (x0.cell 3) (x0.cell 4) (PV.int IntKind.i64 0) (PV.int IntKind.i64 0) (PV.bool true)
      else
        bif ltI (x1.toInt) (0) then
          J34_2 gate1 call k (x1) (x0.cell 0) (x0.cell 1) (x0.cell 2) (x0.cell 3) (x0.cell 4) (PV.int IntKind.i64 0) (PV.int IntKind.i64 0) (PV.bool true)
        else
          let c2 := call 49 [AO.pv (Ty.int IntKind.i64) (PV.int IntKind.i64 (IntKind.i64.wrap (IntKind.i64.wrap ((x0.cell 1).toInt + (x0.cell 2).toInt) + 1)))]
          bif okRes (Ty.int IntKind.i64) c2 then
            bif leI ((resPV c2).toInt) (x1.toInt) then
              J34_2 gate1 call k (x1) (x0.cell 0) (x0.cell 1) (x0.cell 2) (x0.cell 3) (x0.cell 4) (PV.int IntKind.i64 0) (PV.int IntKind.i64 0) (PV.bool true)
            else
              J34_3 gate1 call k (x1) (x0.cell 0) (x0.cell 1) (x0.cell 2) (x0.cell 3) (x0.cell 4) (PV.int IntKind.i64 0) (PV.int IntKind.i64 0)
          else
            none
  else
    none := by rw [evStep_eq]; kernel_rfl
def SJ50_3 (v0 v1 v2 v3 : PV) : St := [AV.o (AO.pv (Ty.int IntKind.i64) v0), AV.o (AO.pv (Ty.int IntKind.i64) v1), dd, dd, AV.o (AO.box 25 [AO.pv (Ty.int IntKind.i64) v2, AO.pv (Ty.int IntKind.i64) v3]), dd, dd, dd, dd, dd, dd, dd, dd, dd, dd, dd, dd]
noncomputable def J50_3 (G : Gate) (call : CallF) (k : Nat) (v0 v1 v2 v3 : PV) : R := G 3 (regAt Tryd.prog call 50 [.b, .b, .a]) (SJ50_3 v0 v1 v2 v3) (behind Tryd.prog H0 G call k 50 [.b, .b, .a] .normal)
theorem J50_3_eq (call : CallF) (k : Nat) (v0 v1 v2 v3 : PV) : J50_3 gate1 call k v0 v1 v2 v3 =
  let c2 := call 49 [AO.pv (Ty.int IntKind.i64) v1]
  bif okRes (Ty.int IntKind.i64) c2 then
    let c3 := call 46 [AO.pv (Ty.int IntKind.i64) (PV.int IntKind.i64 (IntKind.i64.wrap (v0.toInt * (resPV c2).toInt))), AO.pv (Ty.int IntKind.i64) (PV.int IntKind.i64 1)]
    bif okRes (Ty.st 25) c3 then
      some ([AO.pv (Ty.st 25) (PV.agg [(resPV c3).cell 0, (resPV c3).cell 1])], [])
    else
      none
  else
    none := by rw [J50_3, gate1_app]; kernel_rfl
theorem R50 (call : CallF) (k : Nat) (x0 x1 : PV) : evStep Tryd.prog H0 call k 50 [AO.pv (Ty.int IntKind.i64) x0, AO.pv (Ty.int IntKind.i64) x1] =
  bif ltI (x1.toInt) (0) then
    let c0 := call 49 [AO.pv (Ty.int IntKind.i64) (PV.int IntKind.i64 (IntKind.i64.wrap (0 - x1.toInt)))]
    bif okRes (Ty.int IntKind.i64) c0 then
      let c1 := call 46 [AO.pv (Ty.int IntKind.i64) x0, AO.pv (Ty.int IntKind.i64) (resPV c0)]
      bif okRes (Ty.st 25) c1 then
        some ([AO.pv (Ty.st 25) (PV.agg [(resPV c1).cell 0, (resPV c1).cell 1])], [])
      else
        none
    else
      none
  else
    J50_3 gate1 call k (x0) (x1) (PV.int IntKind.i64 0) (PV.int IntKind.i64 0) := by rw [evStep_eq]; kernel_rfl
def SJ51_3 (v0 v1 v2 v3 v4 v5 v6 v7 v8 : PV) : St := [dd, dd, AV.o (AO.box 23 [AO.pv Ty.str v0, AO.pv (Ty.int IntKind.i64) v1, AO.pv (Ty.int IntKind.i64) v2, AO.pv Ty.str v3, AO.pv Ty.str v4]), AV.o (AO.box 63 [AO.pv (Ty.int IntKind.i64) v5, AO.pv (Ty.int IntKind.i64) v6]), AV.o (AO.box 25 [AO.pv (Ty.int IntKind.i64) v7, AO.pv (Ty.int IntKind.i64) v8]), dd, dd, dd, dd, dd, dd, dd, dd, dd]
noncomputable def J51_3 (G : Gate) (call : CallF) (k : Nat) (v0 v1 v2 v3 v4 v5 v6 v7 v8 : PV) : R := G 3 (regAt Tryd.prog call 51 [.b, .b, .a]) (SJ51_3 v0 v1 v2 v3 v4 v5 v6 v7 v8) (behind Tryd.prog H0 G call k 51 [.b, .b, .a] .normal)
theorem J51_3_eq (call : CallF) (k : Nat) (v0 v1 v2 v3 v4 v5 v6 v7 v8 : PV) : J51_3 gate1 call k v0 v1 v2 v3 v4 v5 v6 v7 v8 =
  let c1 := call 62 [AO.pv (Ty.st 23) (PV.agg [v0, v1, v2, v3, v4]), AO.pv (Ty.st 63) (PV.agg [v5, v6])]
  bif okRes (Ty.st 25) c1 then
    some ([AO.pv (Ty.st 25) (PV.agg [(resPV c1).cell 0, (resPV c1).cell 1])], [])
  else
    none := by rw [J51_3, gate1_app]; kernel_rfl
theorem R51 (call : CallF) (k : Nat) (x0 x1 : PV) : evStep Tryd.prog H0 call k 51 [AO.pv (Ty.st 23) x0, AO.pv (Ty.st 63) x1] =
  bif (x0.cell 0).toStr.data.toList == (ByteArray.mk #[102, 105, 120]).data.toList then
    let c0 := call 61 [AO.pv (Ty.st 23) (PV.agg [x0.cell 0, x0.cell 1, x0.cell 2, x0.cell 3, x0.cell 4]), AO.pv (Ty.st 63) (PV.agg [x1.cell 0, x1.cell 1])]
    bif okRes (Ty.st 25) c0 then
      some ([AO.pv (Ty.st 25) (PV.agg [(resPV c0).cell 0, (resPV c0).cell 1])], [])
    else
      none
  else
    J51_3 gate1 call k (x0.cell 0) (x0.cell 1) (x0.cell 2) (x0.cell 3) (x0.cell 4) (x1.cell 0) (x1.cell 1) (PV.int IntKind.i64 0) (PV.int IntKind.i64 0) := by rw [evStep_eq]; kernel_rfl
theorem R52 (call : CallF) (k : Nat) (x0 : PV) : evStep Tryd.prog H0 call k 52 [AO.pv (Ty.st 25) x0] =
  some ([AO.pv (Ty.st 63) (PV.agg [x0.cell 0, x0.cell 1])], []) := by rw [evStep_eq]; kernel_rfl
def SJ61_4 (v0 v1 v2 v3 v4 v5 v6 v7 v8 v9 v10 v11 v12 v13 : PV) : St := [dd, dd, AV.o (AO.box 23 [AO.pv Ty.str v0, AO.pv (Ty.int IntKind.i64) v1, AO.pv (Ty.int IntKind.i64) v2, AO.pv Ty.str v3, AO.pv Ty.str v4]), AV.o (AO.box 63 [AO.pv (Ty.int IntKind.i64) v5, AO.pv (Ty.int IntKind.i64) v6]), AV.o (AO.box 25 [AO.pv (Ty.int IntKind.i64) v7, AO.pv (Ty.int IntKind.i64) v8]), AV.o (AO.pv (Ty.int IntKind.i64) v9), AV.o (AO.pv (Ty.int IntKind.i64) v10), dd, dd, dd, dd, dd, dd, AV.o (AO.pv (Ty.int IntKind.i64) v11), dd, dd, dd, dd, dd, dd, dd, AV.o (AO.pv (Ty.int IntKind.i64) v12), dd, dd, dd, dd, dd, dd, dd, dd, dd, dd, dd, dd, AV.o (AO.pv Ty.bool v13), dd, dd, dd, dd, dd, dd, dd, dd, dd, dd, dd, dd, dd, dd, dd, dd, dd, dd, dd, dd, dd, dd, dd, dd, dd, dd, dd, dd, dd, dd, dd]
noncomputable def J61_4 (G : Gate) (call : CallF) (k : Nat) (v0 v1 v2 v3 v4 v5 v6 v7 v8 v9 v10 v11 v12 v13 : PV) : R := G 4 (regAt Tryd.prog call 61 [.b, .b, .b, .a, .b, .x, .a]) (SJ61_4 v0 v1 v2 v3 v4 v5 v6 v7 v8 v9 v10 v11 v12 v13) (behind Tryd.prog H0 G call k 61 [.b, .b, .b, .a, .b, .x, .a] .normal)
def SJ61_9 (v0 v1 v2 v3 v4 v5 v6 v7 v8 : PV) : St := [dd, dd, AV.o (AO.box 23 [AO.pv Ty.str v0, AO.pv (Ty.int IntKind.i64) v1, AO.pv (Ty.int IntKind.i64) v2, AO.pv Ty.str v3, AO.pv Ty.str v4]), dd, AV.o (AO.box 25 [AO.pv (Ty.int IntKind.i64) v5, AO.pv (Ty.int IntKind.i64) v6]), AV.o (AO.pv (Ty.int IntKind.i64) v7), dd, dd, dd, dd, dd, dd, dd, AV.o (AO.pv (Ty.int IntKind.i64) v8), dd, dd, dd, dd, dd, dd, dd, dd, dd, dd, dd, dd, dd, dd, dd, dd, dd, dd, dd, dd, dd, dd, dd, dd, dd, dd, dd, dd, dd, dd, dd, dd, dd, dd, dd, dd, dd, dd, dd, dd, dd, dd, dd, dd, dd, dd, dd, dd, dd, dd, dd, dd]
noncomputable def J61_9 (G : Gate) (call : CallF) (k : Nat) (v0 v1 v2 v3 v4 v5 v6 v7 v8 : PV) : R := G 9 (regAt Tryd.prog call 61 [.b, .b, .b, .b, .a, .b, .blk, .b, .x, .b, .a]) (SJ61_9 v0 v1 v2 v3 v4 v5 v6 v7 v8) (behind Tryd.prog H0 G call k 61 [.b, .b, .b, .b, .a, .b, .blk, .b, .x, .b, .a] .normal)
def SJ61_12 (v0 v1 : PV) : St := [dd, dd, dd, dd, AV.o (AO.box 25 [AO.pv (Ty.int IntKind.i64) v0, AO.pv (Ty.int IntKind.i64) v1]), dd, dd, dd, dd, dd, dd, dd, dd, dd, dd, dd, dd, dd, dd, dd, dd, dd, dd, dd, dd, dd, dd, dd, dd, dd, dd, dd, dd, dd, dd, dd, dd, dd, dd, dd, dd, dd, dd, dd, dd, dd, dd, dd, dd, dd, dd, dd, dd, dd, dd, dd, dd, dd, dd, dd, dd, dd, dd, dd, dd, dd]
noncomputable def J61_12 (G : Gate) (call : CallF) (k : Nat) (v0 v1 : PV) : R := G 12 (regAt Tryd.prog call 61 [.b, .b, .b, .b, .b, .a]) (SJ61_12 v0 v1) (behind Tryd.prog H0 G call k 61 [.b, .b, .b, .b, .b, .a] .normal)
def SJ61_5 (v0 v1 v2 v3 v4 v5 v6 v7 v8 v9 v10 : PV) : St := [dd, dd, AV.o (AO.box 23 [AO.pv Ty.str v0, AO.pv (Ty.int IntKind.i64) v1, AO.pv (Ty.int IntKind.i64) v2, AO.pv Ty.str v3, AO.pv Ty.str v4]), AV.o (AO.box 63 [AO.pv (Ty.int IntKind.i64) v5, AO.pv (Ty.int IntKind.i64) v6]), AV.o (AO.box 25 [AO.pv (Ty.int IntKind.i64) v7, AO.pv (Ty.int IntKind.i64) v8]), AV.o (AO.pv (Ty.int IntKind.i64) v9), dd, dd, dd, dd, dd, dd, dd, AV.o (AO.pv (Ty.int IntKind.i64) v10), dd, dd, dd, dd, dd, dd, dd, dd, dd, dd, dd, dd, dd, dd, dd, dd, dd, dd, dd, dd, dd, dd, dd, dd, dd, dd, dd, dd, dd, dd, dd, dd, dd, dd, dd, dd, dd, dd, dd, dd, dd, dd, dd, dd, dd, dd, dd, dd, dd, dd, dd, dd]
noncomputable def J61_5 (G : Gate) (call : CallF) (k : Nat) (v0 v1 v2 v3 v4 v5 v6 v7 v8 v9 v10 : PV) : R := G 5 (regAt Tryd.prog call 61 [.b, .b, .b, .b, .a, .a]) (SJ61_5 v0 v1 v2 v3 v4 v5 v6 v7 v8 v9 v10) (behind Tryd.prog H0 G call k 61 [.b, .b, .b, .b, .a, .a] .normal)
theorem J61_4_eq (call : CallF) (k : Nat) (v0 v1 v2 v3 v4 v5 v6 v7 v8 v9 v10 v11 v12 v13 : PV) : J61_4 gate1 call k v0 v1 v2 v3 v4 v5 v6 v7 v8 v9 v10 v11 v12 v13 =
  let c2 := call 49 [AO.pv (Ty.int IntKind.i64) v2]
  bif okRes (Ty.int IntKind.i64) c2 then
    let c3 := call 46 [AO.pv (Ty.int IntKind.i64) v10, AO.pv (Ty.int IntKind.i64) (resPV c2)]
    bif okRes (Ty.st 25) c3 then
      some ([AO.pv (Ty.st 25) (PV.agg [(resPV c3).cell 0, (resPV c3).cell 1])], [])
    else
      none
  else
    none := by rw [J61_4, gate1_app]; kernel_rfl
theorem J61_9_eq (call : CallF) (k : Nat) (v0 v1 v2 v3 v4 v5 v6 v7 v8 : PV) : J61_9 gate1 call k v0 v1 v2 v3 v4 v5 v6 v7 v8 =
  let c6 := call 49 [AO.pv (Ty.int IntKind.i64) v2]
  bif okRes (Ty.int IntKind.i64) c6 then
    let c7 := call 46 [AO.pv (Ty.int IntKind.i64) (PV.int IntKind.i64 (IntKind.i64.wrap (v7.toInt - 1))), AO.pv (Ty.int IntKind.i64) (resPV c6)]
    bif okRes (Ty.st 25) c7 then
      some ([AO.pv (Ty.st 25) (PV.agg [(resPV c7).cell 0, (resPV c7).cell 1])], [])
    else
      none
  else
    none := by rw [J61_9, gate1_app]; kernel_rfl
theorem J61_12_eq (call : CallF) (k : Nat) (v0 v1 : PV) : J61_12 gate1 call k v0 v1 =
  let c9 := call 48 []
  bif okRes (Ty.st 25) c9 then
    some ([AO.pv (Ty.st 25) (PV.agg [(resPV c9).cell 0, (resPV c9).cell 1])], [])
  else
    none := by rw [J61_12, gate1_app]; kernel_rfl
theorem J61_5_eq (call : CallF) (k : Nat) (v0 v1 v2 v3 v4 v5 v6 v7 v8 v9 v10 : PV) : J61_5 gate1 call k v0 v1 v2 v3 v4 v5 v6 v7 v8 v9 v10 =
  bif v4.toStr.data.toList == (ByteArray.mk #[115, 97, 116]).data.toList then
    bif ltI (v5.toInt) (0) then
      let c4 := call 49 [AO.pv (Ty.int IntKind.i64) v2]
      bif okRes (Ty.int IntKind.i64) c4 then
        let c5 := call 46 [AO.pv (Ty.int IntKind.i64) (PV.int IntKind.i64 (IntKind.i64.wrap (0 - v9.toInt))), AO.pv (Ty.int IntKind.i64) (resPV c4)]
        bif okRes (Ty.st 25) c5 then
          some ([AO.pv (Ty.st 25) (PV.agg [(resPV c5).cell 0, (resPV c5).cell 1])], [])
        else
          none
      else
        none
    else
      J61_9 gate1 call k (v0) (v1) (v2) (v3) (v4) (v7) (v8) (v9) (v10)
  else
    bif v4.toStr.data.toList == (ByteArray.mk #[119, 114, 97, 112]).data.toList then
      let c8 := call 68 [AO.pv (Ty.st 23) (PV.agg [v0, v1, v2, v3, v4]), AO.pv (Ty.st 63) (PV.agg [v5, v6]), AO.pv (Ty.int IntKind.i64) v9]
      bif okRes (Ty.st 25) c8 then
        some ([AO.pv (Ty.st 25) (PV.agg [(resPV c8).cell 0, (resPV c8).cell 1])], [])
      else
        none
    else
      J61_12 gate1 call k (v7) (v8) := by rw [J61_5, gate1_app]; kernel_rfl
theorem R61 (call : CallF) (k : Nat) (x0 x1 : PV) : evStep Tryd.prog H0 call k 61 [AO.pv (Ty.st 23) x0, AO.pv (Ty.st 63) x1] =
  let c0 := call 49 [AO.pv (Ty.int IntKind.i64) (PV.int IntKind.i64 (IntKind.i64.wrap ((x0.cell 1).toInt + (x0.cell 2).toInt)))]
  bif okRes (Ty.int IntKind.i64) c0 then
    let c1 := call 67 [AO.pv Ty.str (x0.cell 3), AO.pv (Ty.st 63) (PV.agg [x1.cell 0, x1.cell 1]), AO.pv (Ty.int IntKind.i64) (x0.cell 2)]
    bif !Nat.beq 2 1 && okMany (List.map (tyOf Tryd.prog) #[2, 4].toList) c1 then
      bif (resAt 1 c1).toBool then
        bif leI (IntKind.i64.wrap (0 - (resPV c0).toInt)) ((resAt 0 c1).toInt) then
          bif ltI ((resAt 0 c1).toInt) ((resPV c0).toInt) then
            J61_4 gate1 call k (x0.cell 0) (x0.cell 1) (x0.cell 2) (x0.cell 3) (x0.cell 4) (x1.cell 0) (x1.cell 1) (PV.int IntKind.i64 0) (PV.int IntKind.i64 0) (resPV c0) (resAt 0 c1) (resPV c0) (resAt 0 c1) (PV.bool true)
          else
            J61_5 gate1 call k (x0.cell 0) (x0.cell 1) (x0.cell 2) (x0.cell 3) (x0.cell 4) (x1.cell 0) (x1.cell 1) (PV.int IntKind.i64 0) (PV.int IntKind.i64 0) (resPV c0) (resPV c0)
        else
          J61_5 gate1 call k (x0.cell 0) (x0.cell 1) (x0.cell 2) (x0.cell 3) (x0.cell 4) (x1.cell 0) (x1.cell 1) (PV.int IntKind.i64 0) (PV.int IntKind.i64 0) (resPV c0) (resPV c0)
      else
        J61_5 gate1 call k (x0.cell 0) (x0.cell 1) (x0.cell 2) (x0.cell 3) (x0.cell 4) (x1.cell 0) (x1.cell 1) (PV.int IntKind.i64 0) (PV.int IntKind.i64 0) (resPV c0) (resPV c0)
    else
      none
  else
    none := by rw [evStep_eq]; kernel_rfl
def SJ62_5 (v0 v1 v2 v3 v4 v5 v6 v7 v8 v9 : PV) : St := [dd, dd, AV.o (AO.box 23 [AO.pv Ty.str v0, AO.pv (Ty.int IntKind.i64) v1, AO.pv (Ty.int IntKind.i64) v2, AO.pv Ty.str v3, AO.pv Ty.str v4]), AV.o (AO.box 63 [AO.pv (Ty.int IntKind.i64) v5, AO.pv (Ty.int IntKind.i64) v6]), AV.o (AO.box 25 [AO.pv (Ty.int IntKind.i64) v7, AO.pv (Ty.int IntKind.i64) v8]), AV.o (AO.pv (Ty.int IntKind.i64) v9), dd, dd, dd, dd, dd, dd, dd, dd, dd, dd, dd, dd, dd, dd, dd, dd, dd, dd, dd, dd, dd, dd, dd, dd, dd, dd, dd, dd, dd, dd, dd, dd, dd, dd, dd, dd, dd, dd, dd, dd, dd, dd, dd, dd, dd, dd, dd, dd, dd, dd, dd, dd, dd, dd, dd, dd, dd, dd, dd, dd, dd, dd, dd, dd, dd, dd, dd, dd, dd, dd, dd]
noncomputable def J62_5 (G : Gate) (call : CallF) (k n : Nat) (v0 v1 v2 v3 v4 v5 v6 v7 v8 v9 : PV) : R := G 5 (regAt Tryd.prog call 62 [.b, .b, .b, .a, .blk, .lp n, .b, .blk]) (SJ62_5 v0 v1 v2 v3 v4 v5 v6 v7 v8 v9) (behind Tryd.prog H0 G call k 62 [.b, .b, .b, .a, .blk, .lp n, .b, .blk] .normal)
def SJ62_14 (v0 v1 v2 v3 v4 v5 v6 : PV) : St := [dd, dd, dd, dd, AV.o (AO.box 25 [AO.pv (Ty.int IntKind.i64) v0, AO.pv (Ty.int IntKind.i64) v1]), AV.o (AO.pv (Ty.int IntKind.i64) v2), AV.o (AO.pv (Ty.int IntKind.i64) v3), dd, dd, dd, dd, dd, dd, dd, dd, dd, dd, dd, dd, dd, dd, dd, dd, dd, dd, dd, dd, dd, dd, dd, dd, dd, dd, dd, dd, dd, dd, dd, dd, dd, dd, dd, dd, dd, dd, dd, AV.o (AO.pv (Ty.int IntKind.i64) v4), dd, dd, dd, dd, dd, dd, dd, dd, dd, dd, dd, dd, dd, dd, dd, dd, dd, dd, dd, dd, dd, dd, dd, dd, AV.o (AO.pv (Ty.int IntKind.i64) v5), dd, AV.o (AO.pv (Ty.int IntKind.i64) v6), dd, dd, dd]
noncomputable def J62_14 (G : Gate) (call : CallF) (k : Nat) (v0 v1 v2 v3 v4 v5 v6 : PV) : R := G 14 (regAt Tryd.prog call 62 [.b, .b, .b, .b, .b, .b, .b, .a]) (SJ62_14 v0 v1 v2 v3 v4 v5 v6) (behind Tryd.prog H0 G call k 62 [.b, .b, .b, .b, .b, .b, .b, .a] .normal)
def SJ62_12 (v0 v1 v2 v3 v4 : PV) : St := [dd, dd, dd, dd, AV.o (AO.box 25 [AO.pv (Ty.int IntKind.i64) v0, AO.pv (Ty.int IntKind.i64) v1]), AV.o (AO.pv (Ty.int IntKind.i64) v2), AV.o (AO.pv (Ty.int IntKind.i64) v3), dd, dd, dd, dd, dd, dd, dd, dd, dd, dd, dd, dd, dd, dd, dd, dd, dd, dd, dd, dd, dd, dd, dd, dd, dd, dd, dd, dd, dd, dd, dd, dd, dd, dd, dd, dd, dd, dd, dd, AV.o (AO.pv (Ty.int IntKind.i64) v4), dd, dd, dd, dd, dd, dd, dd, dd, dd, dd, dd, dd, dd, dd, dd, dd, dd, dd, dd, dd, dd, dd, dd, dd, dd, dd, dd, dd, dd, dd]
noncomputable def J62_12 (G : Gate) (call : CallF) (k : Nat) (v0 v1 v2 v3 v4 : PV) : R := G 12 (regAt Tryd.prog call 62 [.b, .b, .b, .b, .b, .b, .a, .b, .x, .b, .a]) (SJ62_12 v0 v1 v2 v3 v4) (behind Tryd.prog H0 G call k 62 [.b, .b, .b, .b, .b, .b, .a, .b, .x, .b, .a] .normal)
def SJ62_10 (v0 v1 v2 v3 v4 v5 v6 v7 v8 v9 v10 v11 v12 : PV) : St := [dd, dd, AV.o (AO.box 23 [AO.pv Ty.str v0, AO.pv (Ty.int IntKind.i64) v1, AO.pv (Ty.int IntKind.i64) v2, AO.pv Ty.str v3, AO.pv Ty.str v4]), AV.o (AO.box 63 [AO.pv (Ty.int IntKind.i64) v5, AO.pv (Ty.int IntKind.i64) v6]), AV.o (AO.box 25 [AO.pv (Ty.int IntKind.i64) v7, AO.pv (Ty.int IntKind.i64) v8]), AV.o (AO.pv (Ty.int IntKind.i64) v9), AV.o (AO.pv (Ty.int IntKind.i64) v10), dd, dd, dd, dd, dd, dd, dd, dd, dd, dd, dd, dd, dd, dd, dd, dd, dd, dd, dd, dd, dd, dd, dd, dd, dd, dd, dd, dd, dd, dd, dd, dd, dd, dd, dd, dd, dd, dd, dd, AV.o (AO.pv (Ty.int IntKind.i64) v11), dd, dd, dd, dd, dd, dd, dd, dd, dd, dd, dd, dd, dd, AV.o (AO.pv Ty.bool v12), dd, dd, dd, dd, dd, dd, dd, dd, dd, dd, dd, dd, dd, dd, dd, dd]
noncomputable def J62_10 (G : Gate) (call : CallF) (k : Nat) (v0 v1 v2 v3 v4 v5 v6 v7 v8 v9 v10 v11 v12 : PV) : R := G 10 (regAt Tryd.prog call 62 [.b, .b, .b, .b, .b, .b, .a, .b, .x, .a, .a]) (SJ62_10 v0 v1 v2 v3 v4 v5 v6 v7 v8 v9 v10 v11 v12) (behind Tryd.prog H0 G call k 62 [.b, .b, .b, .b, .b, .b, .a, .b, .x, .a, .a] .normal)
def SJ62_14s1 (v0 v1 v2 v3 v4 : PV) : St := [dd, dd, dd, dd, AV.o (AO.box 25 [AO.pv (Ty.int IntKind.i64) v0, AO.pv (Ty.int IntKind.i64) v1]), AV.o (AO.pv (Ty.int IntKind.i64) v2), AV.o (AO.pv (Ty.int IntKind.i64) v3), dd, dd, dd, dd, dd, dd, dd, dd, dd, dd, dd, dd, dd, dd, dd, dd, dd, dd, dd, dd, dd, dd, dd, dd, dd, dd, dd, dd, dd, dd, dd, dd, dd, dd, dd, dd, dd, dd, dd, AV.o (AO.pv (Ty.int IntKind.i64) v4), dd, dd, dd, dd, dd, dd, dd, dd, dd, dd, dd, dd, dd, dd, dd, dd, dd, dd, dd, dd, dd, dd, dd, dd, dd, dd, dd, dd, dd, dd]
noncomputable def J62_14s1 (G : Gate) (call : CallF) (k : Nat) (v0 v1 v2 v3 v4 : PV) : R := G 14 (regAt Tryd.prog call 62 [.b, .b, .b, .b, .b, .b, .b, .a]) (SJ62_14s1 v0 v1 v2 v3 v4) (behind Tryd.prog H0 G call k 62 [.b, .b, .b, .b, .b, .b, .b, .a] .normal)
def SJ62_8 (v0 v1 v2 v3 v4 v5 v6 v7 v8 v9 : PV) : St := [dd, dd, AV.o (AO.box 23 [AO.pv Ty.str v0, AO.pv (Ty.int IntKind.i64) v1, AO.pv (Ty.int IntKind.i64) v2, AO.pv Ty.str v3, AO.pv Ty.str v4]), AV.o (AO.box 63 [AO.pv (Ty.int IntKind.i64) v5, AO.pv (Ty.int IntKind.i64) v6]), AV.o (AO.box 25 [AO.pv (Ty.int IntKind.i64) v7, AO.pv (Ty.int IntKind.i64) v8]), AV.o (AO.pv (Ty.int IntKind.i64) v9), dd, dd, dd, dd, dd, dd, dd, dd, dd, dd, dd, dd, dd, dd, dd, dd, dd, dd, dd, dd, dd, dd, dd, dd, dd, dd, dd, dd, dd, dd, dd, dd, dd, dd, dd, dd, dd, dd, dd, dd, dd, dd, dd, dd, dd, dd, dd, dd, dd, dd, dd, dd, dd, dd, dd, dd, dd, dd, dd, dd, dd, dd, dd, dd, dd, dd, dd, dd, dd, dd, dd]
noncomputable def J62_8 (G : Gate) (call : CallF) (k : Nat) (v0 v1 v2 v3 v4 v5 v6 v7 v8 v9 : PV) : R := G 8 (regAt Tryd.prog call 62 [.b, .b, .b, .b, .b, .a]) (SJ62_8 v0 v1 v2 v3 v4 v5 v6 v7 v8 v9) (behind Tryd.prog H0 G call k 62 [.b, .b, .b, .b, .b, .a] .normal)
def SJ62_6 (v0 v1 v2 v3 v4 v5 v6 v7 v8 v9 : PV) : St := [dd, dd, AV.o (AO.box 23 [AO.pv Ty.str v0, AO.pv (Ty.int IntKind.i64) v1, AO.pv (Ty.int IntKind.i64) v2, AO.pv Ty.str v3, AO.pv Ty.str v4]), AV.o (AO.box 63 [AO.pv (Ty.int IntKind.i64) v5, AO.pv (Ty.int IntKind.i64) v6]), AV.o (AO.box 25 [AO.pv (Ty.int IntKind.i64) v7, AO.pv (Ty.int IntKind.i64) v8]), AV.o (AO.pv (Ty.int IntKind.i64) v9), dd, dd, dd, dd, dd, dd, dd, dd, dd, dd, dd, dd, dd, dd, dd, dd, dd, dd, dd, dd, dd, dd, dd, dd, dd, dd, dd, dd, dd, dd, dd, dd, dd, dd, dd, dd, dd, dd, dd, dd, dd, dd, dd, dd, dd, dd, dd, dd, dd, dd, dd, dd, dd, dd, dd, dd, dd, dd, dd, dd, dd, dd, dd, dd, dd, dd, dd, dd, dd, dd, dd]
noncomputable def J62_6 (G : Gate) (call : CallF) (k : Nat) (v0 v1 v2 v3 v4 v5 v6 v7 v8 v9 : PV) : R := G 6 (regAt Tryd.prog call 62 [.b, .b, .b, .b, .a, .a]) (SJ62_6 v0 v1 v2 v3 v4 v5 v6 v7 v8 v9) (behind Tryd.prog H0 G call k 62 [.b, .b, .b, .b, .a, .a] .normal)
def S62_4 (v0 v1 v2 v3 v4 v5 v6 v7 v8 v9 : PV) : St := [dd, dd, AV.o (AO.box 23 [AO.pv Ty.str v0, AO.pv (Ty.int IntKind.i64) v1, AO.pv (Ty.int IntKind.i64) v2, AO.pv Ty.str v3, AO.pv Ty.str v4]), AV.o (AO.box 63 [AO.pv (Ty.int IntKind.i64) v5, AO.pv (Ty.int IntKind.i64) v6]), AV.o (AO.box 25 [AO.pv (Ty.int IntKind.i64) v7, AO.pv (Ty.int IntKind.i64) v8]), AV.o (AO.pv (Ty.int IntKind.i64) v9), dd, dd, dd, dd, dd, dd, dd, dd, dd, dd, dd, dd, dd, dd, dd, dd, dd, dd, dd, dd, dd, dd, dd, dd, dd, dd, dd, dd, dd, dd, dd, dd, dd, dd, dd, dd, dd, dd, dd, dd, dd, dd, dd, dd, dd, dd, dd, dd, dd, dd, dd, dd, dd, dd, dd, dd, dd, dd, dd, dd, dd, dd, dd, dd, dd, dd, dd, dd, dd, dd, dd]
noncomputable def L62_4 (G : Gate) (call : CallF) (k n : Nat) (v0 v1 v2 v3 v4 v5 v6 v7 v8 v9 : PV) : R := loopAt Tryd.prog H0 G call k 62 [.b, .b, .b, .a, .blk] n (S62_4 v0 v1 v2 v3 v4 v5 v6 v7 v8 v9) (behind Tryd.prog H0 G call k 62 [.b, .b, .b, .a, .blk])
def SJ62_3 (v0 v1 v2 v3 v4 v5 v6 v7 v8 : PV) : St := [dd, dd, AV.o (AO.box 23 [AO.pv Ty.str v0, AO.pv (Ty.int IntKind.i64) v1, AO.pv (Ty.int IntKind.i64) v2, AO.pv Ty.str v3, AO.pv Ty.str v4]), AV.o (AO.box 63 [AO.pv (Ty.int IntKind.i64) v5, AO.pv (Ty.int IntKind.i64) v6]), AV.o (AO.box 25 [AO.pv (Ty.int IntKind.i64) v7, AO.pv (Ty.int IntKind.i64) v8]), dd, dd, dd, dd, dd, dd, dd, dd, dd, dd, dd, dd, dd, dd, dd, dd, dd, dd, dd, dd, dd, dd, dd, dd, dd, dd, dd, dd, dd, dd, dd, dd, dd, dd, dd, dd, dd, dd, dd, dd, dd, dd, dd, dd, dd, dd, dd, dd, dd, dd, dd, dd, dd, dd, dd, dd, dd, dd, dd, dd, dd, dd, dd, dd, dd, dd, dd, dd, dd, dd, dd, dd]
noncomputable def J62_3 (G : Gate) (call : CallF) (k : Nat) (v0 v1 v2 v3 v4 v5 v6 v7 v8 : PV) : R := G 3 (regAt Tryd.prog call 62 [.b, .b, .a]) (SJ62_3 v0 v1 v2 v3 v4 v5 v6 v7 v8) (behind Tryd.prog H0 G call k 62 [.b, .b, .a] .normal)
theorem J62_5_eq (call : CallF) (k n : Nat) (v0 v1 v2 v3 v4 v5 v6 v7 v8 v9 : PV) : J62_5 gate1 call k n v0 v1 v2 v3 v4 v5 v6 v7 v8 v9 =
  L62_4 gate1 call k n (v0) (v1) (v2) (v3) (v4) (v5) (v6) (v7) (v8) (PV.int IntKind.i64 (IntKind.i64.wrap (v9.toInt + 1))) := by rw [J62_5, gate1_app]; kernel_rfl
theorem J62_14_eq (call : CallF) (k : Nat) (v0 v1 v2 v3 v4 v5 v6 : PV) : J62_14 gate1 call k v0 v1 v2 v3 v4 v5 v6 =
  let c6 := call 50 [AO.pv (Ty.int IntKind.i64) v3, AO.pv (Ty.int IntKind.i64) v2]
  bif okRes (Ty.st 25) c6 then
    some ([AO.pv (Ty.st 25) (PV.agg [(resPV c6).cell 0, (resPV c6).cell 1])], [])
  else
    none := by rw [J62_14, gate1_app]; kernel_rfl
theorem J62_12_eq (call : CallF) (k : Nat) (v0 v1 v2 v3 v4 : PV) : J62_12 gate1 call k v0 v1 v2 v3 v4 =
  J62_14 gate1 call k (v0) (v1) (PV.int IntKind.i64 (IntKind.i64.wrap (v2.toInt + 1))) (PV.int IntKind.i64 (IntKind.i64.wrap (v3.toInt.tdiv 2))) (v4) (PV.int IntKind.i64 (IntKind.i64.wrap (v3.toInt.tdiv 2))) (PV.int IntKind.i64 (IntKind.i64.wrap (v2.toInt + 1))) := by rw [J62_12, gate1_app]; kernel_rfl
theorem J62_10_eq (call : CallF) (k : Nat) (v0 v1 v2 v3 v4 v5 v6 v7 v8 v9 v10 v11 v12 : PV) : J62_10 gate1 call k v0 v1 v2 v3 v4 v5 v6 v7 v8 v9 v10 v11 v12 =
  bif eqI (v9.toInt) (v2.toInt) then
    let c5 := call 70 [AO.pv (Ty.st 23) (PV.agg [v0, v1, v2, v3, v4]), AO.pv Ty.bool (PV.bool (ltI (v5.toInt) (0)))]
    bif okRes (Ty.st 25) c5 then
      some ([AO.pv (Ty.st 25) (PV.agg [(resPV c5).cell 0, (resPV c5).cell 1])], [])
    else
      none
  else
    J62_12 gate1 call k (v7) (v8) (v9) (v10) (v11) := by rw [J62_10, gate1_app]; kernel_rfl
theorem J62_14s1_eq (call : CallF) (k : Nat) (v0 v1 v2 v3 v4 : PV) : J62_14s1 gate1 call k v0 v1 v2 v3 v4 =
  let c8 := call 50 [AO.pv (Ty.int IntKind.i64) v3, AO.pv (Ty.int IntKind.i64) v2]
  bif okRes (Ty.st 25) c8 then
    some ([AO.pv (Ty.st 25) (PV.agg [(resPV c8).cell 0, (resPV c8).cell 1])], [])
  else
    none := by rw [J62_14s1, gate1_app]; kernel_rfl
theorem J62_8_eq (call : CallF) (k : Nat) (v0 v1 v2 v3 v4 v5 v6 v7 v8 v9 : PV) : J62_8 gate1 call k v0 v1 v2 v3 v4 v5 v6 v7 v8 v9 =
  let c3 := call 67 [AO.pv Ty.str v3, AO.pv (Ty.st 63) (PV.agg [v5, v6]), AO.pv (Ty.int IntKind.i64) (PV.int IntKind.i64 (IntKind.i64.wrap (0 - v9.toInt)))]
  bif !Nat.beq 2 1 && okMany (List.map (tyOf Tryd.prog) #[2, 4].toList) c3 then
    let c4 := call 49 [AO.pv (Ty.int IntKind.i64) v1]
    bif okRes (Ty.int IntKind.i64) c4 then
      bif eqI ((resAt 0 c3).toInt) ((resPV c4).toInt) then
        J62_10 gate1 call k (v0) (v1) (v2) (v3) (v4) (v5) (v6) (v7) (v8) (v9) (resAt 0 c3) (resAt 0 c3) (PV.bool true)
      else
        let c7 := call 49 [AO.pv (Ty.int IntKind.i64) v1]
        bif okRes (Ty.int IntKind.i64) c7 then
          bif eqI ((resAt 0 c3).toInt) (IntKind.i64.wrap (0 - (resPV c7).toInt)) then
            J62_10 gate1 call k (v0) (v1) (v2) (v3) (v4) (v5) (v6) (v7) (v8) (v9) (resAt 0 c3) (resAt 0 c3) (PV.bool true)
          else
            J62_14s1 gate1 call k (v7) (v8) (v9) (resAt 0 c3) (resAt 0 c3)
        else
          none
    else
      none
  else
    none := by rw [J62_8, gate1_app]; kernel_rfl
theorem J62_6_eq (call : CallF) (k : Nat) (v0 v1 v2 v3 v4 v5 v6 v7 v8 v9 : PV) : J62_6 gate1 call k v0 v1 v2 v3 v4 v5 v6 v7 v8 v9 =
  bif ltI (v2.toInt) (v9.toInt) then
    let c2 := call 70 [AO.pv (Ty.st 23) (PV.agg [v0, v1, v2, v3, v4]), AO.pv Ty.bool (PV.bool (ltI (v5.toInt) (0)))]
    bif okRes (Ty.st 25) c2 then
      some ([AO.pv (Ty.st 25) (PV.agg [(resPV c2).cell 0, (resPV c2).cell 1])], [])
    else
      none
  else
    J62_8 gate1 call k (v0) (v1) (v2) (v3) (v4) (v5) (v6) (v7) (v8) (v9) := by rw [J62_6, gate1_app]; kernel_rfl
theorem L62_4_succ (G : Gate) (call : CallF) (k n : Nat) (v0 v1 v2 v3 v4 v5 v6 v7 v8 v9 : PV) : L62_4 G call k (n + 1) v0 v1 v2 v3 v4 v5 v6 v7 v8 v9 =
  bif leI (v9.toInt) (v2.toInt) then
    let c1 := call 69 [AO.pv (Ty.st 63) (PV.agg [v5, v6]), AO.pv (Ty.int IntKind.i64) (PV.int IntKind.i64 (IntKind.i64.wrap (v1.toInt + v9.toInt)))]
    bif okRes Ty.bool c1 then
      bif !(resPV c1).toBool then
        J62_5 G call k n (v0) (v1) (v2) (v3) (v4) (v5) (v6) (v7) (v8) (v9)
      else
  J62_6 G call k (v0) (v1) (v2) (v3) (v4) (v5) (v6) (v7) (v8) (v9)
    else
      none
  else
  J62_6 G call k (v0) (v1) (v2) (v3) (v4) (v5) (v6) (v7) (v8) (v9) := by kernel_rfl
theorem J62_3_eq (call : CallF) (k : Nat) (v0 v1 v2 v3 v4 v5 v6 v7 v8 : PV) : J62_3 gate1 call k v0 v1 v2 v3 v4 v5 v6 v7 v8 =
  L62_4 gate1 call k k (v0) (v1) (v2) (v3) (v4) (v5) (v6) (v7) (v8) (PV.int IntKind.i64 (IntKind.i64.wrap (0 - v2.toInt))) := by rw [J62_3, gate1_app]; kernel_rfl
theorem R62 (call : CallF) (k : Nat) (x0 x1 : PV) : evStep Tryd.prog H0 call k 62 [AO.pv (Ty.st 23) x0, AO.pv (Ty.st 63) x1] =
  bif eqI ((x1.cell 0).toInt) (0) then
    let c0 := call 17 [AO.pv (Ty.int IntKind.i64) (PV.int IntKind.i64 0)]
    bif okRes (Ty.st 25) c0 then
      some ([AO.pv (Ty.st 25) (PV.agg [(resPV c0).cell 0, (resPV c0).cell 1])], [])
    else
      none
  else
    J62_3 gate1 call k (x0.cell 0) (x0.cell 1) (x0.cell 2) (x0.cell 3) (x0.cell 4) (x1.cell 0) (x1.cell 1) (PV.int IntKind.i64 0) (PV.int IntKind.i64 0) := by rw [evStep_eq]; kernel_rfl
def SJ67_4 (v0 v1 v2 v3 : PV) : St := [AV.o (AO.pv Ty.str v0), dd, AV.o (AO.pv (Ty.int IntKind.i64) v1), dd, dd, dd, dd, dd, AV.o (AO.pv (Ty.int IntKind.i64) v2), AV.o (AO.pv (Ty.int IntKind.i64) v3), dd, dd, dd, dd, dd, dd, dd, dd, dd, dd, dd, dd, dd, dd, dd, dd, dd, dd, dd, dd, dd, dd, dd, dd, dd, dd, dd, dd, dd, dd, dd, dd, dd, dd, dd, dd, dd, dd, dd, dd, dd, dd, dd, dd, dd, dd, dd, dd, dd, dd, dd, dd, dd, dd, dd, dd, dd, dd, dd, dd, dd, dd, dd, dd, dd, dd, dd, dd, dd, dd, dd, dd, dd, dd, dd, dd, dd, dd, dd, dd, dd, dd, dd, dd, dd, dd, dd, dd, dd, dd, dd, dd, dd, dd, dd, dd, dd, dd, dd, dd]
noncomputable def J67_4 (G : Gate) (call : CallF) (k n : Nat) (v0 v1 v2 v3 : PV) : R := G 4 (regAt Tryd.prog call 67 [.b, .b, .b, .a, .blk, .lp n, .b, .blk, .a]) (SJ67_4 v0 v1 v2 v3) (behind Tryd.prog H0 G call k 67 [.b, .b, .b, .a, .blk, .lp n, .b, .blk, .a] .normal)
def SJ67_7 (v0 v1 v2 v3 : PV) : St := [AV.o (AO.pv Ty.str v0), dd, AV.o (AO.pv (Ty.int IntKind.i64) v1), dd, dd, dd, dd, dd, AV.o (AO.pv (Ty.int IntKind.i64) v2), AV.o (AO.pv (Ty.int IntKind.i64) v3), dd, dd, dd, dd, dd, dd, dd, dd, dd, dd, dd, dd, dd, dd, dd, dd, dd, dd, dd, dd, dd, dd, dd, dd, dd, dd, dd, dd, dd, dd, dd, dd, dd, dd, dd, dd, dd, dd, dd, dd, dd, dd, dd, dd, dd, dd, dd, dd, dd, dd, dd, dd, dd, dd, dd, dd, dd, dd, dd, dd, dd, dd, dd, dd, dd, dd, dd, dd, dd, dd, dd, dd, dd, dd, dd, dd, dd, dd, dd, dd, dd, dd, dd, dd, dd, dd, dd, dd, dd, dd, dd, dd, dd, dd, dd, dd, dd, dd, dd, dd]
noncomputable def J67_7 (G : Gate) (call : CallF) (k n : Nat) (v0 v1 v2 v3 : PV) : R := G 7 (regAt Tryd.prog call 67 [.b, .b, .b, .b, .a, .blk, .lp n, .b, .blk, .a]) (SJ67_7 v0 v1 v2 v3) (behind Tryd.prog H0 G call k 67 [.b, .b, .b, .b, .a, .blk, .lp n, .b, .blk, .a] .normal)
def SJ67_15 (v0 v1 v2 v3 v4 v5 v6 v7 : PV) : St := [AV.o (AO.pv Ty.str v0), dd, AV.o (AO.pv (Ty.int IntKind.i64) v1), dd, dd, dd, dd, dd, dd, AV.o (AO.pv (Ty.int IntKind.i64) v2), AV.o (AO.pv (Ty.int IntKind.i64) v3), AV.o (AO.pv (Ty.int IntKind.i64) v4), AV.o (AO.pv (Ty.int IntKind.i64) v5), AV.o (AO.pv (Ty.int IntKind.i64) v6), dd, dd, dd, dd, dd, dd, dd, dd, dd, dd, dd, dd, dd, dd, dd, dd, dd, dd, dd, dd, dd, dd, dd, dd, dd, dd, dd, dd, dd, dd, dd, dd, dd, dd, dd, dd, dd, dd, dd, dd, dd, dd, dd, dd, dd, AV.o (AO.pv Ty.bool v7), dd, dd, dd, dd, dd, dd, dd, dd, dd, dd, dd, dd, dd, dd, dd, dd, dd, dd, dd, dd, dd, dd, dd, dd, dd, dd, dd, dd, dd, dd, dd, dd, dd, dd, dd, dd, dd, dd, dd, dd, dd, dd, dd, dd, dd, dd, dd, dd, dd, dd]
noncomputable def J67_15 (G : Gate) (call : CallF) (k n : Nat) (v0 v1 v2 v3 v4 v5 v6 v7 : PV) : R := G 15 (regAt Tryd.prog call 67 [.b, .b, .b, .b, .b, .b, .b, .b, .b, .a, .blk, .lp n, .b, .blk, .a, .b, .x, .a]) (SJ67_15 v0 v1 v2 v3 v4 v5 v6 v7) (behind Tryd.prog H0 G call k 67 [.b, .b, .b, .b, .b, .b, .b, .b, .b, .a, .blk, .lp n, .b, .blk, .a, .b, .x, .a] .normal)
def SJ67_21 (v0 v1 v2 v3 v4 v5 v6 v7 v8 v9 : PV) : St := [AV.o (AO.pv Ty.str v0), dd, AV.o (AO.pv (Ty.int IntKind.i64) v1), dd, dd, dd, dd, dd, dd, AV.o (AO.pv (Ty.int IntKind.i64) v2), AV.o (AO.pv (Ty.int IntKind.i64) v3), AV.o (AO.pv (Ty.int IntKind.i64) v4), AV.o (AO.pv (Ty.int IntKind.i64) v5), AV.o (AO.pv (Ty.int IntKind.i64) v6), dd, dd, dd, dd, dd, dd, dd, dd, dd, dd, dd, dd, dd, dd, dd, dd, dd, dd, dd, dd, dd, dd, dd, dd, dd, dd, dd, dd, dd, dd, dd, dd, dd, dd, dd, dd, dd, dd, dd, dd, dd, dd, dd, dd, dd, dd, dd, dd, AV.o (AO.pv (Ty.int IntKind.i64) v7), dd, dd, dd, dd, dd, dd, AV.o (AO.pv (Ty.int IntKind.i64) v8), dd, dd, dd, dd, AV.o (AO.pv (Ty.int IntKind.i64) v9), dd, dd, dd, dd, dd, dd, dd, dd, dd, dd, dd, dd, dd, dd, dd, dd, dd, dd, dd, dd, dd, dd, dd, dd, dd, dd, dd, dd, dd, dd, dd, dd, dd, dd, dd]
noncomputable def J67_21 (G : Gate) (call : CallF) (k n : Nat) (v0 v1 v2 v3 v4 v5 v6 v7 v8 v9 : PV) : R := G 21 (regAt Tryd.prog call 67 [.b, .b, .b, .b, .b, .b, .b, .b, .b, .a, .blk, .lp n, .b, .blk, .b, .b, .b]) (SJ67_21 v0 v1 v2 v3 v4 v5 v6 v7 v8 v9) (behind Tryd.prog H0 G call k 67 [.b, .b, .b, .b, .b, .b, .b, .b, .b, .a, .blk, .lp n, .b, .blk, .b, .b, .b] .normal)
def SJ67_21s1 (v0 v1 v2 v3 v4 v5 v6 v7 v8 : PV) : St := [AV.o (AO.pv Ty.str v0), dd, AV.o (AO.pv (Ty.int IntKind.i64) v1), dd, dd, dd, dd, dd, dd, AV.o (AO.pv (Ty.int IntKind.i64) v2), AV.o (AO.pv (Ty.int IntKind.i64) v3), AV.o (AO.pv (Ty.int IntKind.i64) v4), AV.o (AO.pv (Ty.int IntKind.i64) v5), AV.o (AO.pv (Ty.int IntKind.i64) v6), dd, dd, dd, dd, dd, dd, dd, dd, dd, dd, dd, dd, dd, dd, dd, dd, dd, dd, dd, dd, dd, dd, dd, dd, dd, dd, dd, dd, dd, dd, dd, dd, dd, dd, dd, dd, dd, dd, dd, dd, dd, dd, dd, dd, dd, dd, dd, dd, AV.o (AO.pv (Ty.int IntKind.i64) v7), dd, dd, dd, dd, dd, dd, dd, dd, dd, dd, dd, dd, dd, AV.o (AO.pv (Ty.int IntKind.i64) v8), dd, dd, dd, dd, dd, dd, dd, dd, dd, dd, dd, dd, dd, dd, dd, dd, dd, dd, dd, dd, dd, dd, dd, dd, dd, dd, dd, dd, dd, dd, dd, dd, dd]
noncomputable def J67_21s1 (G : Gate) (call : CallF) (k n : Nat) (v0 v1 v2 v3 v4 v5 v6 v7 v8 : PV) : R := G 21 (regAt Tryd.prog call 67 [.b, .b, .b, .b, .b, .b, .b, .b, .b, .a, .blk, .lp n, .b, .blk, .b, .b, .b]) (SJ67_21s1 v0 v1 v2 v3 v4 v5 v6 v7 v8) (behind Tryd.prog H0 G call k 67 [.b, .b, .b, .b, .b, .b, .b, .b, .b, .a, .blk, .lp n, .b, .blk, .b, .b, .b] .normal)
def SJ67_16 (v0 v1 v2 v3 v4 v5 v6 : PV) : St := [AV.o (AO.pv Ty.str v0), dd, AV.o (AO.pv (Ty.int IntKind.i64) v1), dd, dd, dd, dd, dd, dd, AV.o (AO.pv (Ty.int IntKind.i64) v2), AV.o (AO.pv (Ty.int IntKind.i64) v3), AV.o (AO.pv (Ty.int IntKind.i64) v4), AV.o (AO.pv (Ty.int IntKind.i64) v5), AV.o (AO.pv (Ty.int IntKind.i64) v6), dd, dd, dd, dd, dd, dd, dd, dd, dd, dd, dd, dd, dd, dd, dd, dd, dd, dd, dd, dd, dd, dd, dd, dd, dd, dd, dd, dd, dd, dd, dd, dd, dd, dd, dd, dd, dd, dd, dd, dd, dd, dd, dd, dd, dd, dd, dd, dd, dd, dd, dd, dd, dd, dd, dd, dd, dd, dd, dd, dd, dd, dd, dd, dd, dd, dd, dd, dd, dd, dd, dd, dd, dd, dd, dd, dd, dd, dd, dd, dd, dd, dd, dd, dd, dd, dd, dd, dd, dd, dd, dd, dd, dd, dd, dd, dd]
noncomputable def J67_16 (G : Gate) (call : CallF) (k n : Nat) (v0 v1 v2 v3 v4 v5 v6 : PV) : R := G 16 (regAt Tryd.prog call 67 [.b, .b, .b, .b, .b, .b, .b, .b, .b, .a, .blk, .lp n, .b, .blk, .b, .a]) (SJ67_16 v0 v1 v2 v3 v4 v5 v6) (behind Tryd.prog H0 G call k 67 [.b, .b, .b, .b, .b, .b, .b, .b, .b, .a, .blk, .lp n, .b, .blk, .b, .a] .normal)
def SJ67_14 (v0 v1 v2 v3 v4 v5 v6 : PV) : St := [AV.o (AO.pv Ty.str v0), dd, AV.o (AO.pv (Ty.int IntKind.i64) v1), dd, dd, dd, dd, dd, dd, AV.o (AO.pv (Ty.int IntKind.i64) v2), AV.o (AO.pv (Ty.int IntKind.i64) v3), AV.o (AO.pv (Ty.int IntKind.i64) v4), AV.o (AO.pv (Ty.int IntKind.i64) v5), AV.o (AO.pv (Ty.int IntKind.i64) v6), dd, dd, dd, dd, dd, dd, dd, dd, dd, dd, dd, dd, dd, dd, dd, dd, dd, dd, dd, dd, dd, dd, dd, dd, dd, dd, dd, dd, dd, dd, dd, dd, dd, dd, dd, dd, dd, dd, dd, dd, dd, dd, dd, dd, dd, dd, dd, dd, dd, dd, dd, dd, dd, dd, dd, dd, dd, dd, dd, dd, dd, dd, dd, dd, dd, dd, dd, dd, dd, dd, dd, dd, dd, dd, dd, dd, dd, dd, dd, dd, dd, dd, dd, dd, dd, dd, dd, dd, dd, dd, dd, dd, dd, dd, dd, dd]
noncomputable def J67_14 (G : Gate) (call : CallF) (k n : Nat) (v0 v1 v2 v3 v4 v5 v6 : PV) : R := G 14 (regAt Tryd.prog call 67 [.b, .b, .b, .b, .b, .b, .b, .b, .b, .a, .blk, .lp n, .b, .blk, .a, .a]) (SJ67_14 v0 v1 v2 v3 v4 v5 v6) (behind Tryd.prog H0 G call k 67 [.b, .b, .b, .b, .b, .b, .b, .b, .b, .a, .blk, .lp n, .b, .blk, .a, .a] .normal)
def SJ67_28 (v0 v1 v2 v3 v4 v5 v6 v7 v8 v9 v10 v11 : PV) : St := [AV.o (AO.pv Ty.str v0), dd, dd, dd, dd, dd, dd, dd, dd, AV.o (AO.pv (Ty.int IntKind.i64) v1), AV.o (AO.pv (Ty.int IntKind.i64) v2), AV.o (AO.pv (Ty.int IntKind.i64) v3), AV.o (AO.pv (Ty.int IntKind.i64) v4), AV.o (AO.pv (Ty.int IntKind.i64) v5), AV.o (AO.pv (Ty.int IntKind.i64) v6), dd, dd, dd, dd, dd, dd, dd, dd, dd, dd, dd, dd, dd, dd, dd, dd, dd, dd, dd, dd, dd, dd, dd, dd, dd, dd, dd, dd, dd, dd, dd, dd, dd, dd, dd, dd, dd, dd, dd, dd, dd, dd, dd, dd, dd, dd, dd, dd, dd, dd, dd, dd, dd, dd, dd, dd, dd, dd, dd, dd, dd, dd, dd, dd, dd, dd, dd, dd, AV.o (AO.pv (Ty.int IntKind.i64) v7), dd, dd, AV.o (AO.pv (Ty.int IntKind.i64) v8), dd, dd, dd, dd, AV.o (AO.pv (Ty.int IntKind.i64) v9), AV.o (AO.pv (Ty.int IntKind.i64) v10), dd, dd, dd, dd, dd, dd, dd, dd, AV.o (AO.pv Ty.bool v11), dd, dd, dd, dd, dd, dd, dd, dd]
noncomputable def J67_28 (G : Gate) (call : CallF) (k : Nat) (v0 v1 v2 v3 v4 v5 v6 v7 v8 v9 v10 v11 : PV) : R := G 28 (regAt Tryd.prog call 67 [.b, .b, .b, .b, .b, .b, .b, .b, .b, .b, .b, .a, .b, .x, .a]) (SJ67_28 v0 v1 v2 v3 v4 v5 v6 v7 v8 v9 v10 v11) (behind Tryd.prog H0 G call k 67 [.b, .b, .b, .b, .b, .b, .b, .b, .b, .b, .b, .a, .b, .x, .a] .normal)
def SJ67_29 (v0 v1 v2 v3 v4 v5 v6 v7 v8 v9 v10 : PV) : St := [AV.o (AO.pv Ty.str v0), dd, dd, dd, dd, dd, dd, dd, dd, AV.o (AO.pv (Ty.int IntKind.i64) v1), AV.o (AO.pv (Ty.int IntKind.i64) v2), AV.o (AO.pv (Ty.int IntKind.i64) v3), AV.o (AO.pv (Ty.int IntKind.i64) v4), AV.o (AO.pv (Ty.int IntKind.i64) v5), AV.o (AO.pv (Ty.int IntKind.i64) v6), dd, dd, dd, dd, dd, dd, dd, dd, dd, dd, dd, dd, dd, dd, dd, dd, dd, dd, dd, dd, dd, dd, dd, dd, dd, dd, dd, dd, dd, dd, dd, dd, dd, dd, dd, dd, dd, dd, dd, dd, dd, dd, dd, dd, dd, dd, dd, dd, dd, dd, dd, dd, dd, dd, dd, dd, dd, dd, dd, dd, dd, dd, dd, dd, dd, dd, dd, dd, AV.o (AO.pv (Ty.int IntKind.i64) v7), dd, dd, AV.o (AO.pv (Ty.int IntKind.i64) v8), dd, dd, dd, dd, AV.o (AO.pv (Ty.int IntKind.i64) v9), AV.o (AO.pv (Ty.int IntKind.i64) v10), dd, dd, dd, dd, dd, dd, dd, dd, dd, dd, dd, dd, dd, dd, dd, dd, dd]
noncomputable def J67_29 (G : Gate) (call : CallF) (k : Nat) (v0 v1 v2 v3 v4 v5 v6 v7 v8 v9 v10 : PV) : R := G 29 (regAt Tryd.prog call 67 [.b, .b, .b, .b, .b, .b, .b, .b, .b, .b, .b, .b, .a]) (SJ67_29 v0 v1 v2 v3 v4 v5 v6 v7 v8 v9 v10) (behind Tryd.prog H0 G call k 67 [.b, .b, .b, .b, .b, .b, .b, .b, .b, .b, .b, .b, .a] .normal)
def SJ67_27 (v0 v1 v2 v3 v4 v5 v6 v7 v8 v9 v10 : PV) : St := [AV.o (AO.pv Ty.str v0), dd, dd, dd, dd, dd, dd, dd, dd, AV.o (AO.pv (Ty.int IntKind.i64) v1), AV.o (AO.pv (Ty.int IntKind.i64) v2), AV.o (AO.pv (Ty.int IntKind.i64) v3), AV.o (AO.pv (Ty.int IntKind.i64) v4), AV.o (AO.pv (Ty.int IntKind.i64) v5), AV.o (AO.pv (Ty.int IntKind.i64) v6), dd, dd, dd, dd, dd, dd, dd, dd, dd, dd, dd, dd, dd, dd, dd, dd, dd, dd, dd, dd, dd, dd, dd, dd, dd, dd, dd, dd, dd, dd, dd, dd, dd, dd, dd, dd, dd, dd, dd, dd, dd, dd, dd, dd, dd, dd, dd, dd, dd, dd, dd, dd, dd, dd, dd, dd, dd, dd, dd, dd, dd, dd, dd, dd, dd, dd, dd, dd, AV.o (AO.pv (Ty.int IntKind.i64) v7), dd, dd, AV.o (AO.pv (Ty.int IntKind.i64) v8), dd, dd, dd, dd, AV.o (AO.pv (Ty.int IntKind.i64) v9), AV.o (AO.pv (Ty.int IntKind.i64) v10), dd, dd, dd, dd, dd, dd, dd, dd, dd, dd, dd, dd, dd, dd, dd, dd, dd]
noncomputable def J67_27 (G : Gate) (call : CallF) (k : Nat) (v0 v1 v2 v3 v4 v5 v6 v7 v8 v9 v10 : PV) : R := G 27 (regAt Tryd.prog call 67 [.b, .b, .b, .b, .b, .b, .b, .b, .b, .b, .b, .a, .a]) (SJ67_27 v0 v1 v2 v3 v4 v5 v6 v7 v8 v9 v10) (behind Tryd.prog H0 G call k 67 [.b, .b, .b, .b, .b, .b, .b, .b, .b, .b, .b, .a, .a] .normal)
def SJ67_28s1 (v0 v1 v2 v3 v4 v5 v6 : PV) : St := [AV.o (AO.pv Ty.str v0), dd, dd, dd, dd, dd, dd, dd, dd, AV.o (AO.pv (Ty.int IntKind.i64) v1), AV.o (AO.pv (Ty.int IntKind.i64) v2), AV.o (AO.pv (Ty.int IntKind.i64) v3), AV.o (AO.pv (Ty.int IntKind.i64) v4), AV.o (AO.pv (Ty.int IntKind.i64) v5), dd, dd, dd, dd, dd, dd, dd, dd, dd, dd, dd, dd, dd, dd, dd, dd, dd, dd, dd, dd, dd, dd, dd, dd, dd, dd, dd, dd, dd, dd, dd, dd, dd, dd, dd, dd, dd, dd, dd, dd, dd, dd, dd, dd, dd, dd, dd, dd, dd, dd, dd, dd, dd, dd, dd, dd, dd, dd, dd, dd, dd, dd, dd, dd, dd, dd, dd, dd, dd, dd, dd, dd, dd, dd, dd, dd, dd, dd, dd, dd, dd, dd, dd, dd, dd, dd, dd, AV.o (AO.pv Ty.bool v6), dd, dd, dd, dd, dd, dd, dd, dd]
noncomputable def J67_28s1 (G : Gate) (call : CallF) (k : Nat) (v0 v1 v2 v3 v4 v5 v6 : PV) : R := G 28 (regAt Tryd.prog call 67 [.b, .b, .b, .b, .b, .b, .b, .b, .b, .b, .b, .a, .b, .x, .a]) (SJ67_28s1 v0 v1 v2 v3 v4 v5 v6) (behind Tryd.prog H0 G call k 67 [.b, .b, .b, .b, .b, .b, .b, .b, .b, .b, .b, .a, .b, .x, .a] .normal)
def SJ67_29s1 (v0 v1 v2 v3 v4 v5 : PV) : St := [AV.o (AO.pv Ty.str v0), dd, dd, dd, dd, dd, dd, dd, dd, AV.o (AO.pv (Ty.int IntKind.i64) v1), AV.o (AO.pv (Ty.int IntKind.i64) v2), AV.o (AO.pv (Ty.int IntKind.i64) v3), AV.o (AO.pv (Ty.int IntKind.i64) v4), AV.o (AO.pv (Ty.int IntKind.i64) v5), dd, dd, dd, dd, dd, dd, dd, dd, dd, dd, dd, dd, dd, dd, dd, dd, dd, dd, dd, dd, dd, dd, dd, dd, dd, dd, dd, dd, dd, dd, dd, dd, dd, dd, dd, dd, dd, dd, dd, dd, dd, dd, dd, dd, dd, dd, dd, dd, dd, dd, dd, dd, dd, dd, dd, dd, dd, dd, dd, dd, dd, dd, dd, dd, dd, dd, dd, dd, dd, dd, dd, dd, dd, dd, dd, dd, dd, dd, dd, dd, dd, dd, dd, dd, dd, dd, dd, dd, dd, dd, dd, dd, dd, dd, dd, dd]
noncomputable def J67_29s1 (G : Gate) (call : CallF) (k : Nat) (v0 v1 v2 v3 v4 v5 : PV) : R := G 29 (regAt Tryd.prog call 67 [.b, .b, .b, .b, .b, .b, .b, .b, .b, .b, .b, .b, .a]) (SJ67_29s1 v0 v1 v2 v3 v4 v5) (behind Tryd.prog H0 G call k 67 [.b, .b, .b, .b, .b, .b, .b, .b, .b, .b, .b, .b, .a] .normal)
def SJ67_27s1 (v0 v1 v2 v3 v4 v5 : PV) : St := [AV.o (AO.pv Ty.str v0), dd, dd, dd, dd, dd, dd, dd, dd, AV.o (AO.pv (Ty.int IntKind.i64) v1), AV.o (AO.pv (Ty.int IntKind.i64) v2), AV.o (AO.pv (Ty.int IntKind.i64) v3), AV.o (AO.pv (Ty.int IntKind.i64) v4), AV.o (AO.pv (Ty.int IntKind.i64) v5), dd, dd, dd, dd, dd, dd, dd, dd, dd, dd, dd, dd, dd, dd, dd, dd, dd, dd, dd, dd, dd, dd, dd, dd, dd, dd, dd, dd, dd, dd, dd, dd, dd, dd, dd, dd, dd, dd, dd, dd, dd, dd, dd, dd, dd, dd, dd, dd, dd, dd, dd, dd, dd, dd, dd, dd, dd, dd, dd, dd, dd, dd, dd, dd, dd, dd, dd, dd, dd, dd, dd, dd, dd, dd, dd, dd, dd, dd, dd, dd, dd, dd, dd, dd, dd, dd, dd, dd, dd, dd, dd, dd, dd, dd, dd, dd]
noncomputable def J67_27s1 (G : Gate) (call : CallF) (k : Nat) (v0 v1 v2 v3 v4 v5 : PV) : R := G 27 (regAt Tryd.prog call 67 [.b, .b, .b, .b, .b, .b, .b, .b, .b, .b, .b, .a, .a]) (SJ67_27s1 v0 v1 v2 v3 v4 v5) (behind Tryd.prog H0 G call k 67 [.b, .b, .b, .b, .b, .b, .b, .b, .b, .b, .b, .a, .a] .normal)
def SJ67_22 (v0 v1 v2 v3 v4 v5 v6 : PV) : St := [AV.o (AO.pv Ty.str v0), dd, AV.o (AO.pv (Ty.int IntKind.i64) v1), dd, dd, dd, dd, dd, dd, AV.o (AO.pv (Ty.int IntKind.i64) v2), AV.o (AO.pv (Ty.int IntKind.i64) v3), AV.o (AO.pv (Ty.int IntKind.i64) v4), AV.o (AO.pv (Ty.int IntKind.i64) v5), AV.o (AO.pv (Ty.int IntKind.i64) v6), dd, dd, dd, dd, dd, dd, dd, dd, dd, dd, dd, dd, dd, dd, dd, dd, dd, dd, dd, dd, dd, dd, dd, dd, dd, dd, dd, dd, dd, dd, dd, dd, dd, dd, dd, dd, dd, dd, dd, dd, dd, dd, dd, dd, dd, dd, dd, dd, dd, dd, dd, dd, dd, dd, dd, dd, dd, dd, dd, dd, dd, dd, dd, dd, dd, dd, dd, dd, dd, dd, dd, dd, dd, dd, dd, dd, dd, dd, dd, dd, dd, dd, dd, dd, dd, dd, dd, dd, dd, dd, dd, dd, dd, dd, dd, dd]
noncomputable def J67_22 (G : Gate) (call : CallF) (k : Nat) (v0 v1 v2 v3 v4 v5 v6 : PV) : R := G 22 (regAt Tryd.prog call 67 [.b, .b, .b, .b, .b, .b, .b, .b, .b, .b, .a, .a]) (SJ67_22 v0 v1 v2 v3 v4 v5 v6) (behind Tryd.prog H0 G call k 67 [.b, .b, .b, .b, .b, .b, .b, .b, .b, .b, .a, .a] .normal)
def S67_13 (v0 v1 v2 v3 v4 v5 v6 : PV) : St := [AV.o (AO.pv Ty.str v0), dd, AV.o (AO.pv (Ty.int IntKind.i64) v1), dd, dd, dd, dd, dd, dd, AV.o (AO.pv (Ty.int IntKind.i64) v2), AV.o (AO.pv (Ty.int IntKind.i64) v3), AV.o (AO.pv (Ty.int IntKind.i64) v4), AV.o (AO.pv (Ty.int IntKind.i64) v5), AV.o (AO.pv (Ty.int IntKind.i64) v6), dd, dd, dd, dd, dd, dd, dd, dd, dd, dd, dd, dd, dd, dd, dd, dd, dd, dd, dd, dd, dd, dd, dd, dd, dd, dd, dd, dd, dd, dd, dd, dd, dd, dd, dd, dd, dd, dd, dd, dd, dd, dd, dd, dd, dd, dd, dd, dd, dd, dd, dd, dd, dd, dd, dd, dd, dd, dd, dd, dd, dd, dd, dd, dd, dd, dd, dd, dd, dd, dd, dd, dd, dd, dd, dd, dd, dd, dd, dd, dd, dd, dd, dd, dd, dd, dd, dd, dd, dd, dd, dd, dd, dd, dd, dd, dd]
noncomputable def L67_13 (G : Gate) (call : CallF) (k n : Nat) (v0 v1 v2 v3 v4 v5 v6 : PV) : R := loopAt Tryd.prog H0 G call k 67 [.b, .b, .b, .b, .b, .b, .b, .b, .b, .a, .blk] n (S67_13 v0 v1 v2 v3 v4 v5 v6) (behind Tryd.prog H0 G call k 67 [.b, .b, .b, .b, .b, .b, .b, .b, .b, .a, .blk])
def SJ67_9 (v0 v1 v2 v3 : PV) : St := [AV.o (AO.pv Ty.str v0), dd, AV.o (AO.pv (Ty.int IntKind.i64) v1), dd, dd, dd, dd, dd, AV.o (AO.pv (Ty.int IntKind.i64) v2), AV.o (AO.pv (Ty.int IntKind.i64) v3), dd, dd, dd, dd, dd, dd, dd, dd, dd, dd, dd, dd, dd, dd, dd, dd, dd, dd, dd, dd, dd, dd, dd, dd, dd, dd, dd, dd, dd, dd, dd, dd, dd, dd, dd, dd, dd, dd, dd, dd, dd, dd, dd, dd, dd, dd, dd, dd, dd, dd, dd, dd, dd, dd, dd, dd, dd, dd, dd, dd, dd, dd, dd, dd, dd, dd, dd, dd, dd, dd, dd, dd, dd, dd, dd, dd, dd, dd, dd, dd, dd, dd, dd, dd, dd, dd, dd, dd, dd, dd, dd, dd, dd, dd, dd, dd, dd, dd, dd, dd]
noncomputable def J67_9 (G : Gate) (call : CallF) (k : Nat) (v0 v1 v2 v3 : PV) : R := G 9 (regAt Tryd.prog call 67 [.b, .b, .b, .b, .b, .a]) (SJ67_9 v0 v1 v2 v3) (behind Tryd.prog H0 G call k 67 [.b, .b, .b, .b, .b, .a] .normal)
def S67_6 (v0 v1 v2 v3 : PV) : St := [AV.o (AO.pv Ty.str v0), dd, AV.o (AO.pv (Ty.int IntKind.i64) v1), dd, dd, dd, dd, dd, AV.o (AO.pv (Ty.int IntKind.i64) v2), AV.o (AO.pv (Ty.int IntKind.i64) v3), dd, dd, dd, dd, dd, dd, dd, dd, dd, dd, dd, dd, dd, dd, dd, dd, dd, dd, dd, dd, dd, dd, dd, dd, dd, dd, dd, dd, dd, dd, dd, dd, dd, dd, dd, dd, dd, dd, dd, dd, dd, dd, dd, dd, dd, dd, dd, dd, dd, dd, dd, dd, dd, dd, dd, dd, dd, dd, dd, dd, dd, dd, dd, dd, dd, dd, dd, dd, dd, dd, dd, dd, dd, dd, dd, dd, dd, dd, dd, dd, dd, dd, dd, dd, dd, dd, dd, dd, dd, dd, dd, dd, dd, dd, dd, dd, dd, dd, dd, dd]
noncomputable def L67_6 (G : Gate) (call : CallF) (k n : Nat) (v0 v1 v2 v3 : PV) : R := loopAt Tryd.prog H0 G call k 67 [.b, .b, .b, .b, .a, .blk] n (S67_6 v0 v1 v2 v3) (behind Tryd.prog H0 G call k 67 [.b, .b, .b, .b, .a, .blk])
def S67_3 (v0 v1 v2 v3 : PV) : St := [AV.o (AO.pv Ty.str v0), dd, AV.o (AO.pv (Ty.int IntKind.i64) v1), dd, dd, dd, dd, dd, AV.o (AO.pv (Ty.int IntKind.i64) v2), AV.o (AO.pv (Ty.int IntKind.i64) v3), dd, dd, dd, dd, dd, dd, dd, dd, dd, dd, dd, dd, dd, dd, dd, dd, dd, dd, dd, dd, dd, dd, dd, dd, dd, dd, dd, dd, dd, dd, dd, dd, dd, dd, dd, dd, dd, dd, dd, dd, dd, dd, dd, dd, dd, dd, dd, dd, dd, dd, dd, dd, dd, dd, dd, dd, dd, dd, dd, dd, dd, dd, dd, dd, dd, dd, dd, dd, dd, dd, dd, dd, dd, dd, dd, dd, dd, dd, dd, dd, dd, dd, dd, dd, dd, dd, dd, dd, dd, dd, dd, dd, dd, dd, dd, dd, dd, dd, dd, dd]
noncomputable def L67_3 (G : Gate) (call : CallF) (k n : Nat) (v0 v1 v2 v3 : PV) : R := loopAt Tryd.prog H0 G call k 67 [.b, .b, .b, .a, .blk] n (S67_3 v0 v1 v2 v3) (behind Tryd.prog H0 G call k 67 [.b, .b, .b, .a, .blk])
theorem J67_4_eq (call : CallF) (k n : Nat) (v0 v1 v2 v3 : PV) : J67_4 gate1 call k n v0 v1 v2 v3 =
  L67_3 gate1 call k n (v0) (PV.int IntKind.i64 (IntKind.i64.wrap (v1.toInt - 1))) (v2) (PV.int IntKind.i64 (IntKind.i64.wrap (v3.toInt.tdiv 2))) := by rw [J67_4, gate1_app]; kernel_rfl
theorem J67_7_eq (call : CallF) (k n : Nat) (v0 v1 v2 v3 : PV) : J67_7 gate1 call k n v0 v1 v2 v3 =
  L67_6 gate1 call k n (v0) (PV.int IntKind.i64 (IntKind.i64.wrap (v1.toInt + 1))) (PV.int IntKind.i64 (IntKind.i64.wrap (v2.toInt.tdiv 2))) (v3) := by rw [J67_7, gate1_app]; kernel_rfl
theorem J67_15_eq (call : CallF) (k n : Nat) (v0 v1 v2 v3 v4 v5 v6 v7 : PV) : J67_15 gate1 call k n v0 v1 v2 v3 v4 v5 v6 v7 =
  some ([AO.pv (Ty.int IntKind.i64) v3, AO.pv Ty.bool (PV.bool false)], []) := by rw [J67_15, gate1_app]; kernel_rfl
theorem J67_21_eq (call : CallF) (k n : Nat) (v0 v1 v2 v3 v4 v5 v6 v7 v8 v9 : PV) : J67_21 gate1 call k n v0 v1 v2 v3 v4 v5 v6 v7 v8 v9 =
  L67_13 gate1 call k n (v0) (PV.int IntKind.i64 (IntKind.i64.wrap (v1.toInt - 1))) (v2) (v3) (v4) (v5) (v6) := by rw [J67_21, gate1_app]; kernel_rfl
theorem J67_21s1_eq (call : CallF) (k n : Nat) (v0 v1 v2 v3 v4 v5 v6 v7 v8 : PV) : J67_21s1 gate1 call k n v0 v1 v2 v3 v4 v5 v6 v7 v8 =
  L67_13 gate1 call k n (v0) (PV.int IntKind.i64 (IntKind.i64.wrap (v1.toInt - 1))) (v2) (v3) (v4) (v5) (v6) := by rw [J67_21s1, gate1_app]; kernel_rfl
theorem J67_16_eq (call : CallF) (k n : Nat) (v0 v1 v2 v3 v4 v5 v6 : PV) : J67_16 gate1 call k n v0 v1 v2 v3 v4 v5 v6 =
  bif leI (IntKind.i64.wrap (v2.toInt - v4.toInt)) (v4.toInt) then
    J67_21 gate1 call k n (v0) (v1) (v2) (PV.int IntKind.i64 (IntKind.i64.wrap (IntKind.i64.wrap (2 * v3.toInt) + 1))) (PV.int IntKind.i64 (IntKind.i64.wrap (v4.toInt - IntKind.i64.wrap (v2.toInt - v4.toInt)))) (v5) (v6) (PV.int IntKind.i64 (IntKind.i64.wrap (2 * v3.toInt))) (PV.int IntKind.i64 (IntKind.i64.wrap (IntKind.i64.wrap (2 * v3.toInt) + 1))) (PV.int IntKind.i64 (IntKind.i64.wrap (v4.toInt - IntKind.i64.wrap (v2.toInt - v4.toInt))))
  else
    J67_21s1 gate1 call k n (v0) (v1) (v2) (PV.int IntKind.i64 (IntKind.i64.wrap (2 * v3.toInt))) (PV.int IntKind.i64 (IntKind.i64.wrap (2 * v4.toInt))) (v5) (v6) (PV.int IntKind.i64 (IntKind.i64.wrap (2 * v3.toInt))) (PV.int IntKind.i64 (IntKind.i64.wrap (2 * v4.toInt))) := by rw [J67_16, gate1_app]; kernel_rfl
theorem J67_14_eq (call : CallF) (k n : Nat) (v0 v1 v2 v3 v4 v5 v6 : PV) : J67_14 gate1 call k n v0 v1 v2 v3 v4 v5 v6 =
  let c1 := call 49 [AO.pv (Ty.int IntKind.i64) (PV.int IntKind.i64 40)]
  bif okRes (Ty.int IntKind.i64) c1 then
    bif ltI ((resPV c1).toInt) (v3.toInt) then
      J67_15 gate1 call k n (v0) (v1) (v2) (v3) (v4) (v5) (v6) (PV.bool true)
    else
      let c2 := call 49 [AO.pv (Ty.int IntKind.i64) (PV.int IntKind.i64 40)]
      bif okRes (Ty.int IntKind.i64) c2 then
        bif ltI (v3.toInt) (IntKind.i64.wrap (0 - (resPV c2).toInt)) then
          J67_15 gate1 call k n (v0) (v1) (v2) (v3) (v4) (v5) (v6) (PV.bool true)
        else
          J67_16 gate1 call k n (v0) (v1) (v2) (v3) (v4) (v5) (v6)
      else
        none
  else
    none := by rw [J67_14, gate1_app]; kernel_rfl
theorem J67_28_eq (call : CallF) (k : Nat) (v0 v1 v2 v3 v4 v5 v6 v7 v8 v9 v10 v11 : PV) : J67_28 gate1 call k v0 v1 v2 v3 v4 v5 v6 v7 v8 v9 v10 v11 =
  some ([AO.pv (Ty.int IntKind.i64) v2, AO.pv Ty.bool (PV.bool false)], []) := by rw [J67_28, gate1_app]; kernel_rfl
theorem J67_29_eq (call : CallF) (k : Nat) (v0 v1 v2 v3 v4 v5 v6 v7 v8 v9 v10 : PV) : J67_29 gate1 call k v0 v1 v2 v3 v4 v5 v6 v7 v8 v9 v10 =
  let c7 := call 76 [AO.pv Ty.str v0, AO.pv (Ty.int IntKind.i64) v2, AO.pv (Ty.int IntKind.i64) v5, AO.pv (Ty.int IntKind.i64) v4, AO.pv (Ty.int IntKind.i64) v3, AO.pv (Ty.int IntKind.i64) v1]
  bif okRes (Ty.int IntKind.i64) c7 then
    some ([AO.pv (Ty.int IntKind.i64) (resPV c7), AO.pv Ty.bool (PV.bool true)], [])
  else
    none := by rw [J67_29, gate1_app]; kernel_rfl
theorem J67_27_eq (call : CallF) (k : Nat) (v0 v1 v2 v3 v4 v5 v6 v7 v8 v9 v10 : PV) : J67_27 gate1 call k v0 v1 v2 v3 v4 v5 v6 v7 v8 v9 v10 =
  let c5 := call 49 [AO.pv (Ty.int IntKind.i64) (PV.int IntKind.i64 40)]
  bif okRes (Ty.int IntKind.i64) c5 then
    bif ltI ((resPV c5).toInt) (v2.toInt) then
      J67_28 gate1 call k (v0) (v1) (v2) (v3) (v4) (v5) (v6) (v7) (v8) (v9) (v10) (PV.bool true)
    else
      let c6 := call 49 [AO.pv (Ty.int IntKind.i64) (PV.int IntKind.i64 40)]
      bif okRes (Ty.int IntKind.i64) c6 then
        bif ltI (v2.toInt) (IntKind.i64.wrap (0 - (resPV c6).toInt)) then
          J67_28 gate1 call k (v0) (v1) (v2) (v3) (v4) (v5) (v6) (v7) (v8) (v9) (v10) (PV.bool true)
        else
          J67_29 gate1 call k (v0) (v1) (v2) (v3) (v4) (v5) (v6) (v7) (v8) (v9) (v10)
      else
        none
  else
    none := by rw [J67_27, gate1_app]; kernel_rfl
theorem J67_28s1_eq (call : CallF) (k : Nat) (v0 v1 v2 v3 v4 v5 v6 : PV) : J67_28s1 gate1 call k v0 v1 v2 v3 v4 v5 v6 =
  some ([AO.pv (Ty.int IntKind.i64) v2, AO.pv Ty.bool (PV.bool false)], []) := by rw [J67_28s1, gate1_app]; kernel_rfl
theorem J67_29s1_eq (call : CallF) (k : Nat) (v0 v1 v2 v3 v4 v5 : PV) : J67_29s1 gate1 call k v0 v1 v2 v3 v4 v5 =
  let c10 := call 76 [AO.pv Ty.str v0, AO.pv (Ty.int IntKind.i64) v2, AO.pv (Ty.int IntKind.i64) v5, AO.pv (Ty.int IntKind.i64) v4, AO.pv (Ty.int IntKind.i64) v3, AO.pv (Ty.int IntKind.i64) v1]
  bif okRes (Ty.int IntKind.i64) c10 then
    some ([AO.pv (Ty.int IntKind.i64) (resPV c10), AO.pv Ty.bool (PV.bool true)], [])
  else
    none := by rw [J67_29s1, gate1_app]; kernel_rfl
theorem J67_27s1_eq (call : CallF) (k : Nat) (v0 v1 v2 v3 v4 v5 : PV) : J67_27s1 gate1 call k v0 v1 v2 v3 v4 v5 =
  let c8 := call 49 [AO.pv (Ty.int IntKind.i64) (PV.int IntKind.i64 40)]
  bif okRes (Ty.int IntKind.i64) c8 then
    bif ltI ((resPV c8).toInt) (v2.toInt) then
      J67_28s1 gate1 call k (v0) (v1) (v2) (v3) (v4) (v5) (PV.bool true)
    else
      let c9 := call 49 [AO.pv (Ty.int IntKind.i64) (PV.int IntKind.i64 40)]
      bif okRes (Ty.int IntKind.i64) c9 then
        bif ltI (v2.toInt) (IntKind.i64.wrap (0 - (resPV c9).toInt)) then
          J67_28s1 gate1 call k (v0) (v1) (v2) (v3) (v4) (v5) (PV.bool true)
        else
          J67_29s1 gate1 call k (v0) (v1) (v2) (v3) (v4) (v5)
      else
        none
  else
    none := by rw [J67_27s1, gate1_app]; kernel_rfl
theorem J67_22_eq (call : CallF) (k : Nat) (v0 v1 v2 v3 v4 v5 v6 : PV) : J67_22 gate1 call k v0 v1 v2 v3 v4 v5 v6 =
  bif ltI (v1.toInt) (0) then
    let c3 := call 49 [AO.pv (Ty.int IntKind.i64) (PV.int IntKind.i64 (IntKind.i64.wrap (0 - v1.toInt)))]
    bif okRes (Ty.int IntKind.i64) c3 then
      let c4 := call 75 [AO.pv (Ty.int IntKind.i64) v3, AO.pv (Ty.int IntKind.i64) (resPV c3)]
      bif okRes (Ty.int IntKind.i64) c4 then
        J67_27 gate1 call k (v0) (v2) (resPV c4) (v4) (resPV c3) (PV.int IntKind.i64 (IntKind.i64.wrap (v3.toInt - IntKind.i64.wrap ((resPV c4).toInt * (resPV c3).toInt)))) (resPV c4) (resPV c3) (resPV c4) (PV.int IntKind.i64 (IntKind.i64.wrap (v3.toInt - IntKind.i64.wrap ((resPV c4).toInt * (resPV c3).toInt)))) (resPV c4)
      else
        none
    else
      none
  else
    J67_27s1 gate1 call k (v0) (v2) (v3) (v4) (v5) (v6) := by rw [J67_22, gate1_app]; kernel_rfl
theorem L67_13_succ (G : Gate) (call : CallF) (k n : Nat) (v0 v1 v2 v3 v4 v5 v6 : PV) : L67_13 G call k (n + 1) v0 v1 v2 v3 v4 v5 v6 =
  bif ltI (0) (v1.toInt) then
    J67_14 G call k n (v0) (v1) (v2) (v3) (v4) (v5) (v6)
  else
  J67_22 G call k (v0) (v1) (v2) (v3) (v4) (v5) (v6) := by kernel_rfl
theorem J67_9_eq (call : CallF) (k : Nat) (v0 v1 v2 v3 : PV) : J67_9 gate1 call k v0 v1 v2 v3 =
  let c0 := call 75 [AO.pv (Ty.int IntKind.i64) v2, AO.pv (Ty.int IntKind.i64) v3]
  bif okRes (Ty.int IntKind.i64) c0 then
    L67_13 gate1 call k k (v0) (v1) (v3) (resPV c0) (PV.int IntKind.i64 (IntKind.i64.wrap (v2.toInt - IntKind.i64.wrap ((resPV c0).toInt * v3.toInt)))) (PV.int IntKind.i64 1) (PV.int IntKind.i64 0)
  else
    none := by rw [J67_9, gate1_app]; kernel_rfl
theorem L67_6_succ (G : Gate) (call : CallF) (k n : Nat) (v0 v1 v2 v3 : PV) : L67_6 G call k (n + 1) v0 v1 v2 v3 =
  bif ltI (v1.toInt) (0) then
    bif eqI (v2.toInt.tmod 2) (0) then
      J67_7 G call k n (v0) (v1) (v2) (v3)
    else
  J67_9 G call k (v0) (v1) (v2) (v3)
  else
  J67_9 G call k (v0) (v1) (v2) (v3) := by kernel_rfl
theorem L67_3_succ (G : Gate) (call : CallF) (k n : Nat) (v0 v1 v2 v3 : PV) : L67_3 G call k (n + 1) v0 v1 v2 v3 =
  bif ltI (0) (v1.toInt) then
    bif eqI (v3.toInt.tmod 2) (0) then
      J67_4 G call k n (v0) (v1) (v2) (v3)
    else
  L67_6 G call k k (v0) (v1) (v2) (v3)
  else
  L67_6 G call k k (v0) (v1) (v2) (v3) := by kernel_rfl
theorem R67 (call : CallF) (k : Nat) (x0 x1 x2 : PV) : evStep Tryd.prog H0 call k 67 [AO.pv Ty.str x0, AO.pv (Ty.st 63) x1, AO.pv (Ty.int IntKind.i64) x2] =
  L67_3 gate1 call k k (x0) (x2) (x1.cell 0) (x1.cell 1) := by rw [evStep_eq]; kernel_rfl
def SJ68_15 (v0 v1 v2 v3 v4 v5 v6 v7 v8 v9 v10 v11 : PV) : St := [dd, dd, dd, AV.o (AO.box 23 [AO.pv Ty.str v0, AO.pv (Ty.int IntKind.i64) v1, AO.pv (Ty.int IntKind.i64) v2, AO.pv Ty.str v3, AO.pv Ty.str v4]), dd, dd, AV.o (AO.box 25 [AO.pv (Ty.int IntKind.i64) v5, AO.pv (Ty.int IntKind.i64) v6]), dd, dd, dd, dd, AV.o (AO.pv (Ty.int IntKind.i64) v7), dd, dd, dd, dd, dd, dd, dd, dd, dd, dd, dd, dd, dd, dd, dd, dd, dd, dd, dd, dd, dd, dd, dd, dd, dd, dd, dd, dd, dd, dd, dd, dd, dd, dd, dd, dd, dd, AV.o (AO.pv (Ty.int IntKind.i64) v8), dd, dd, dd, dd, AV.o (AO.pv (Ty.int IntKind.i64) v9), dd, dd, dd, dd, dd, AV.o (AO.pv (Ty.int IntKind.i64) v10), dd, dd, dd, dd, dd, dd, AV.o (AO.pv (Ty.int IntKind.i64) v11), dd, dd, dd, dd, dd]
noncomputable def J68_15 (G : Gate) (call : CallF) (k : Nat) (v0 v1 v2 v3 v4 v5 v6 v7 v8 v9 v10 v11 : PV) : R := G 15 (regAt Tryd.prog call 68 [.b, .b, .b, .b, .b, .b, .b, .b, .b, .b, .a]) (SJ68_15 v0 v1 v2 v3 v4 v5 v6 v7 v8 v9 v10 v11) (behind Tryd.prog H0 G call k 68 [.b, .b, .b, .b, .b, .b, .b, .b, .b, .b, .a] .normal)
def SJ68_15s1 (v0 v1 v2 v3 v4 v5 v6 v7 v8 v9 v10 : PV) : St := [dd, dd, dd, AV.o (AO.box 23 [AO.pv Ty.str v0, AO.pv (Ty.int IntKind.i64) v1, AO.pv (Ty.int IntKind.i64) v2, AO.pv Ty.str v3, AO.pv Ty.str v4]), dd, dd, AV.o (AO.box 25 [AO.pv (Ty.int IntKind.i64) v5, AO.pv (Ty.int IntKind.i64) v6]), dd, dd, dd, dd, AV.o (AO.pv (Ty.int IntKind.i64) v7), dd, dd, dd, dd, dd, dd, dd, dd, dd, dd, dd, dd, dd, dd, dd, dd, dd, dd, dd, dd, dd, dd, dd, dd, dd, dd, dd, dd, dd, dd, dd, dd, dd, dd, dd, dd, dd, AV.o (AO.pv (Ty.int IntKind.i64) v8), dd, dd, dd, dd, AV.o (AO.pv (Ty.int IntKind.i64) v9), dd, dd, dd, dd, dd, AV.o (AO.pv (Ty.int IntKind.i64) v10), dd, dd, dd, dd, dd, dd, dd, dd, dd, dd, dd, dd]
noncomputable def J68_15s1 (G : Gate) (call : CallF) (k : Nat) (v0 v1 v2 v3 v4 v5 v6 v7 v8 v9 v10 : PV) : R := G 15 (regAt Tryd.prog call 68 [.b, .b, .b, .b, .b, .b, .b, .b, .b, .b, .a]) (SJ68_15s1 v0 v1 v2 v3 v4 v5 v6 v7 v8 v9 v10) (behind Tryd.prog H0 G call k 68 [.b, .b, .b, .b, .b, .b, .b, .b, .b, .b, .a] .normal)
def SJ68_13 (v0 v1 v2 v3 v4 v5 v6 v7 v8 v9 v10 v11 : PV) : St := [dd, dd, AV.o (AO.pv (Ty.int IntKind.i64) v0), AV.o (AO.box 23 [AO.pv Ty.str v1, AO.pv (Ty.int IntKind.i64) v2, AO.pv (Ty.int IntKind.i64) v3, AO.pv Ty.str v4, AO.pv Ty.str v5]), dd, dd, AV.o (AO.box 25 [AO.pv (Ty.int IntKind.i64) v6, AO.pv (Ty.int IntKind.i64) v7]), dd, dd, dd, dd, AV.o (AO.pv (Ty.int IntKind.i64) v8), dd, dd, dd, dd, dd, dd, dd, dd, dd, dd, dd, dd, dd, dd, dd, dd, dd, dd, dd, dd, dd, dd, dd, dd, dd, dd, dd, dd, dd, dd, dd, dd, dd, dd, dd, dd, dd, AV.o (AO.pv (Ty.int IntKind.i64) v9), dd, dd, dd, dd, AV.o (AO.pv (Ty.int IntKind.i64) v10), dd, dd, dd, dd, dd, AV.o (AO.pv (Ty.int IntKind.i64) v11), dd, dd, dd, dd, dd, dd, dd, dd, dd, dd, dd, dd]
noncomputable def J68_13 (G : Gate) (call : CallF) (k : Nat) (v0 v1 v2 v3 v4 v5 v6 v7 v8 v9 v10 v11 : PV) : R := G 13 (regAt Tryd.prog call 68 [.b, .b, .b, .b, .b, .b, .b, .b, .b, .a, .a]) (SJ68_13 v0 v1 v2 v3 v4 v5 v6 v7 v8 v9 v10 v11) (behind Tryd.prog H0 G call k 68 [.b, .b, .b, .b, .b, .b, .b, .b, .b, .a, .a] .normal)
def SJ68_15s2 (v0 v1 v2 v3 v4 v5 v6 v7 v8 v9 v10 : PV) : St := [dd, dd, dd, AV.o (AO.box 23 [AO.pv Ty.str v0, AO.pv (Ty.int IntKind.i64) v1, AO.pv (Ty.int IntKind.i64) v2, AO.pv Ty.str v3, AO.pv Ty.str v4]), dd, dd, AV.o (AO.box 25 [AO.pv (Ty.int IntKind.i64) v5, AO.pv (Ty.int IntKind.i64) v6]), dd, dd, dd, dd, AV.o (AO.pv (Ty.int IntKind.i64) v7), dd, dd, dd, dd, dd, dd, dd, dd, dd, dd, dd, dd, dd, dd, dd, dd, dd, dd, dd, dd, dd, dd, dd, dd, dd, dd, dd, dd, dd, dd, dd, dd, dd, dd, dd, dd, dd, AV.o (AO.pv (Ty.int IntKind.i64) v8), dd, dd, dd, dd, AV.o (AO.pv (Ty.int IntKind.i64) v9), dd, dd, dd, dd, dd, dd, dd, dd, dd, dd, dd, dd, AV.o (AO.pv (Ty.int IntKind.i64) v10), dd, dd, dd, dd, dd]
noncomputable def J68_15s2 (G : Gate) (call : CallF) (k : Nat) (v0 v1 v2 v3 v4 v5 v6 v7 v8 v9 v10 : PV) : R := G 15 (regAt Tryd.prog call 68 [.b, .b, .b, .b, .b, .b, .b, .b, .b, .b, .a]) (SJ68_15s2 v0 v1 v2 v3 v4 v5 v6 v7 v8 v9 v10) (behind Tryd.prog H0 G call k 68 [.b, .b, .b, .b, .b, .b, .b, .b, .b, .b, .a] .normal)
def SJ68_15s3 (v0 v1 v2 v3 v4 v5 v6 v7 v8 v9 : PV) : St := [dd, dd, dd, AV.o (AO.box 23 [AO.pv Ty.str v0, AO.pv (Ty.int IntKind.i64) v1, AO.pv (Ty.int IntKind.i64) v2, AO.pv Ty.str v3, AO.pv Ty.str v4]), dd, dd, AV.o (AO.box 25 [AO.pv (Ty.int IntKind.i64) v5, AO.pv (Ty.int IntKind.i64) v6]), dd, dd, dd, dd, AV.o (AO.pv (Ty.int IntKind.i64) v7), dd, dd, dd, dd, dd, dd, dd, dd, dd, dd, dd, dd, dd, dd, dd, dd, dd, dd, dd, dd, dd, dd, dd, dd, dd, dd, dd, dd, dd, dd, dd, dd, dd, dd, dd, dd, dd, AV.o (AO.pv (Ty.int IntKind.i64) v8), dd, dd, dd, dd, AV.o (AO.pv (Ty.int IntKind.i64) v9), dd, dd, dd, dd, dd, dd, dd, dd, dd, dd, dd, dd, dd, dd, dd, dd, dd, dd]
noncomputable def J68_15s3 (G : Gate) (call : CallF) (k : Nat) (v0 v1 v2 v3 v4 v5 v6 v7 v8 v9 : PV) : R := G 15 (regAt Tryd.prog call 68 [.b, .b, .b, .b, .b, .b, .b, .b, .b, .b, .a]) (SJ68_15s3 v0 v1 v2 v3 v4 v5 v6 v7 v8 v9) (behind Tryd.prog H0 G call k 68 [.b, .b, .b, .b, .b, .b, .b, .b, .b, .b, .a] .normal)
def SJ68_13s1 (v0 v1 v2 v3 v4 v5 v6 v7 v8 v9 v10 : PV) : St := [dd, dd, AV.o (AO.pv (Ty.int IntKind.i64) v0), AV.o (AO.box 23 [AO.pv Ty.str v1, AO.pv (Ty.int IntKind.i64) v2, AO.pv (Ty.int IntKind.i64) v3, AO.pv Ty.str v4, AO.pv Ty.str v5]), dd, dd, AV.o (AO.box 25 [AO.pv (Ty.int IntKind.i64) v6, AO.pv (Ty.int IntKind.i64) v7]), dd, dd, dd, dd, AV.o (AO.pv (Ty.int IntKind.i64) v8), dd, dd, dd, dd, dd, dd, dd, dd, dd, dd, dd, dd, dd, dd, dd, dd, dd, dd, dd, dd, dd, dd, dd, dd, dd, dd, dd, dd, dd, dd, dd, dd, dd, dd, dd, dd, dd, AV.o (AO.pv (Ty.int IntKind.i64) v9), dd, dd, dd, dd, AV.o (AO.pv (Ty.int IntKind.i64) v10), dd, dd, dd, dd, dd, dd, dd, dd, dd, dd, dd, dd, dd, dd, dd, dd, dd, dd]
noncomputable def J68_13s1 (G : Gate) (call : CallF) (k : Nat) (v0 v1 v2 v3 v4 v5 v6 v7 v8 v9 v10 : PV) : R := G 13 (regAt Tryd.prog call 68 [.b, .b, .b, .b, .b, .b, .b, .b, .b, .a, .a]) (SJ68_13s1 v0 v1 v2 v3 v4 v5 v6 v7 v8 v9 v10) (behind Tryd.prog H0 G call k 68 [.b, .b, .b, .b, .b, .b, .b, .b, .b, .a, .a] .normal)
def SJ68_9 (v0 v1 v2 v3 v4 v5 v6 v7 v8 v9 v10 v11 : PV) : St := [dd, dd, AV.o (AO.pv (Ty.int IntKind.i64) v0), AV.o (AO.box 23 [AO.pv Ty.str v1, AO.pv (Ty.int IntKind.i64) v2, AO.pv (Ty.int IntKind.i64) v3, AO.pv Ty.str v4, AO.pv Ty.str v5]), dd, dd, AV.o (AO.box 25 [AO.pv (Ty.int IntKind.i64) v6, AO.pv (Ty.int IntKind.i64) v7]), dd, dd, AV.o (AO.box 63 [AO.pv (Ty.int IntKind.i64) v8, AO.pv (Ty.int IntKind.i64) v9]), AV.o (AO.pv Ty.str v10), dd, dd, dd, dd, dd, dd, dd, dd, dd, dd, dd, dd, dd, dd, dd, dd, dd, dd, dd, dd, dd, dd, dd, dd, dd, AV.ptr 3 [] 3, AV.o (AO.pv Ty.str v11), dd, dd, dd, dd, dd, dd, dd, dd, dd, dd, dd, dd, dd, dd, dd, dd, dd, dd, dd, dd, dd, dd, dd, dd, dd, dd, dd, dd, dd, dd, dd, dd, dd, dd, dd]
noncomputable def J68_9 (G : Gate) (call : CallF) (k : Nat) (v0 v1 v2 v3 v4 v5 v6 v7 v8 v9 v10 v11 : PV) : R := G 9 (regAt Tryd.prog call 68 [.b, .b, .b, .b, .b, .b, .a]) (SJ68_9 v0 v1 v2 v3 v4 v5 v6 v7 v8 v9 v10 v11) (behind Tryd.prog H0 G call k 68 [.b, .b, .b, .b, .b, .b, .a] .normal)
theorem J68_15_eq (call : CallF) (k : Nat) (v0 v1 v2 v3 v4 v5 v6 v7 v8 v9 v10 v11 : PV) : J68_15 gate1 call k v0 v1 v2 v3 v4 v5 v6 v7 v8 v9 v10 v11 =
  let c4 := call 49 [AO.pv (Ty.int IntKind.i64) v2]
  bif okRes (Ty.int IntKind.i64) c4 then
    let c5 := call 46 [AO.pv (Ty.int IntKind.i64) v7, AO.pv (Ty.int IntKind.i64) (resPV c4)]
    bif okRes (Ty.st 25) c5 then
      some ([AO.pv (Ty.st 25) (PV.agg [(resPV c5).cell 0, (resPV c5).cell 1])], [])
    else
      none
  else
    none := by rw [J68_15, gate1_app]; kernel_rfl
theorem J68_15s1_eq (call : CallF) (k : Nat) (v0 v1 v2 v3 v4 v5 v6 v7 v8 v9 v10 : PV) : J68_15s1 gate1 call k v0 v1 v2 v3 v4 v5 v6 v7 v8 v9 v10 =
  let c6 := call 49 [AO.pv (Ty.int IntKind.i64) v2]
  bif okRes (Ty.int IntKind.i64) c6 then
    let c7 := call 46 [AO.pv (Ty.int IntKind.i64) v7, AO.pv (Ty.int IntKind.i64) (resPV c6)]
    bif okRes (Ty.st 25) c7 then
      some ([AO.pv (Ty.st 25) (PV.agg [(resPV c7).cell 0, (resPV c7).cell 1])], [])
    else
      none
  else
    none := by rw [J68_15s1, gate1_app]; kernel_rfl
theorem J68_13_eq (call : CallF) (k : Nat) (v0 v1 v2 v3 v4 v5 v6 v7 v8 v9 v10 v11 : PV) : J68_13 gate1 call k v0 v1 v2 v3 v4 v5 v6 v7 v8 v9 v10 v11 =
  bif leI (v0.toInt) (v8.toInt) then
    J68_15 gate1 call k (v1) (v2) (v3) (v4) (v5) (v6) (v7) (PV.int IntKind.i64 (IntKind.i64.wrap (v8.toInt - IntKind.i64.wrap (2 * v0.toInt)))) (v9) (v10) (v11) (PV.int IntKind.i64 (IntKind.i64.wrap (v8.toInt - IntKind.i64.wrap (2 * v0.toInt))))
  else
    J68_15s1 gate1 call k (v1) (v2) (v3) (v4) (v5) (v6) (v7) (v8) (v9) (v10) (v11) := by rw [J68_13, gate1_app]; kernel_rfl
theorem J68_15s2_eq (call : CallF) (k : Nat) (v0 v1 v2 v3 v4 v5 v6 v7 v8 v9 v10 : PV) : J68_15s2 gate1 call k v0 v1 v2 v3 v4 v5 v6 v7 v8 v9 v10 =
  let c8 := call 49 [AO.pv (Ty.int IntKind.i64) v2]
  bif okRes (Ty.int IntKind.i64) c8 then
    let c9 := call 46 [AO.pv (Ty.int IntKind.i64) v7, AO.pv (Ty.int IntKind.i64) (resPV c8)]
    bif okRes (Ty.st 25) c9 then
      some ([AO.pv (Ty.st 25) (PV.agg [(resPV c9).cell 0, (resPV c9).cell 1])], [])
    else
      none
  else
    none := by rw [J68_15s2, gate1_app]; kernel_rfl
theorem J68_15s3_eq (call : CallF) (k : Nat) (v0 v1 v2 v3 v4 v5 v6 v7 v8 v9 : PV) : J68_15s3 gate1 call k v0 v1 v2 v3 v4 v5 v6 v7 v8 v9 =
  let c10 := call 49 [AO.pv (Ty.int IntKind.i64) v2]
  bif okRes (Ty.int IntKind.i64) c10 then
    let c11 := call 46 [AO.pv (Ty.int IntKind.i64) v7, AO.pv (Ty.int IntKind.i64) (resPV c10)]
    bif okRes (Ty.st 25) c11 then
      some ([AO.pv (Ty.st 25) (PV.agg [(resPV c11).cell 0, (resPV c11).cell 1])], [])
    else
      none
  else
    none := by rw [J68_15s3, gate1_app]; kernel_rfl
theorem J68_13s1_eq (call : CallF) (k : Nat) (v0 v1 v2 v3 v4 v5 v6 v7 v8 v9 v10 : PV) : J68_13s1 gate1 call k v0 v1 v2 v3 v4 v5 v6 v7 v8 v9 v10 =
  bif leI (v0.toInt) (v8.toInt) then
    J68_15s2 gate1 call k (v1) (v2) (v3) (v4) (v5) (v6) (v7) (PV.int IntKind.i64 (IntKind.i64.wrap (v8.toInt - IntKind.i64.wrap (2 * v0.toInt)))) (v9) (v10) (PV.int IntKind.i64 (IntKind.i64.wrap (v8.toInt - IntKind.i64.wrap (2 * v0.toInt))))
  else
    J68_15s3 gate1 call k (v1) (v2) (v3) (v4) (v5) (v6) (v7) (v8) (v9) (v10) := by rw [J68_13s1, gate1_app]; kernel_rfl
theorem J68_9_eq (call : CallF) (k : Nat) (v0 v1 v2 v3 v4 v5 v6 v7 v8 v9 v10 v11 : PV) : J68_9 gate1 call k v0 v1 v2 v3 v4 v5 v6 v7 v8 v9 v10 v11 =
  let c3 := call 67 [AO.pv Ty.str v10, AO.pv (Ty.st 63) (PV.agg [v8, v9]), AO.pv (Ty.int IntKind.i64) v3]
  bif !Nat.beq 2 1 && okMany (List.map (tyOf Tryd.prog) #[2, 4].toList) c3 then
    bif eqI (IntKind.i64.wrap (2 * v0.toInt)) (0) then
      none
    else
      bif ltI ((resAt 0 c3).toInt.tmod (IntKind.i64.wrap (2 * v0.toInt))) (0) then
        J68_13 gate1 call k (v0) (v1) (v2) (v3) (v4) (v5) (v6) (v7) (PV.int IntKind.i64 (IntKind.i64.wrap ((resAt 0 c3).toInt.tmod (IntKind.i64.wrap (2 * v0.toInt)) + IntKind.i64.wrap (2 * v0.toInt)))) (resAt 0 c3) (PV.int IntKind.i64 ((resAt 0 c3).toInt.tmod (IntKind.i64.wrap (2 * v0.toInt)))) (PV.int IntKind.i64 (IntKind.i64.wrap ((resAt 0 c3).toInt.tmod (IntKind.i64.wrap (2 * v0.toInt)) + IntKind.i64.wrap (2 * v0.toInt))))
      else
        J68_13s1 gate1 call k (v0) (v1) (v2) (v3) (v4) (v5) (v6) (v7) (PV.int IntKind.i64 ((resAt 0 c3).toInt.tmod (IntKind.i64.wrap (2 * v0.toInt)))) (resAt 0 c3) (PV.int IntKind.i64 ((resAt 0 c3).toInt.tmod (IntKind.i64.wrap (2 * v0.toInt))))
  else
    none := by rw [J68_9, gate1_app]; kernel_rfl
theorem R68 (call : CallF) (k : Nat) (x0 x1 x2 : PV) : evStep Tryd.prog H0 call k 68 [AO.pv (Ty.st 23) x0, AO.pv (Ty.st 63) x1, AO.pv (Ty.int IntKind.i64) x2] =
  let c0 := call 49 [AO.pv (Ty.int IntKind.i64) (PV.int IntKind.i64 (IntKind.i64.wrap ((x0.cell 1).toInt + 1)))]
  bif okRes (Ty.int IntKind.i64) c0 then
    let c1 := call 75 [AO.pv (Ty.int IntKind.i64) (x1.cell 0), AO.pv (Ty.int IntKind.i64) (x1.cell 1)]
    bif okRes (Ty.int IntKind.i64) c1 then
      let c2 := call 75 [AO.pv (Ty.int IntKind.i64) (resPV c1), AO.pv (Ty.int IntKind.i64) (resPV c0)]
      bif okRes (Ty.int IntKind.i64) c2 then
        bif (x0.cell 3).toStr.data.toList == (ByteArray.mk #[122, 101, 114, 111]).data.toList then
          bif ltI ((x1.cell 0).toInt) (0) then
            J68_9 gate1 call k (x2) (x0.cell 0) (x0.cell 1) (x0.cell 2) (x0.cell 3) (x0.cell 4) (PV.int IntKind.i64 0) (PV.int IntKind.i64 0) (PV.int IntKind.i64 (IntKind.i64.wrap ((x1.cell 0).toInt - IntKind.i64.wrap (IntKind.i64.wrap ((resPV c2).toInt * (resPV c0).toInt) * (x1.cell 1).toInt)))) (x1.cell 1) (PV.str (ByteArray.mk #[117, 112])) (x0.cell 3)
          else
            J68_9 gate1 call k (x2) (x0.cell 0) (x0.cell 1) (x0.cell 2) (x0.cell 3) (x0.cell 4) (PV.int IntKind.i64 0) (PV.int IntKind.i64 0) (PV.int IntKind.i64 (IntKind.i64.wrap ((x1.cell 0).toInt - IntKind.i64.wrap (IntKind.i64.wrap ((resPV c2).toInt * (resPV c0).toInt) * (x1.cell 1).toInt)))) (x1.cell 1) (PV.str (ByteArray.mk #[102, 108, 111, 111, 114])) (x0.cell 3)
        else
          J68_9 gate1 call k (x2) (x0.cell 0) (x0.cell 1) (x0.cell 2) (x0.cell 3) (x0.cell 4) (PV.int IntKind.i64 0) (PV.int IntKind.i64 0) (PV.int IntKind.i64 (IntKind.i64.wrap ((x1.cell 0).toInt - IntKind.i64.wrap (IntKind.i64.wrap ((resPV c2).toInt * (resPV c0).toInt) * (x1.cell 1).toInt)))) (x1.cell 1) (x0.cell 3) (x0.cell 3)
      else
        none
    else
      none
  else
    none := by rw [evStep_eq]; kernel_rfl
def SJ69_10 (v0 v1 v2 v3 : PV) : St := [dd, AV.o (AO.pv (Ty.int IntKind.i64) v0), AV.o (AO.box 63 [AO.pv (Ty.int IntKind.i64) v1, AO.pv (Ty.int IntKind.i64) v2]), dd, dd, AV.o (AO.pv (Ty.int IntKind.i64) v3), dd, dd, dd, dd, dd, dd, dd, dd, dd, dd, dd, dd, dd, dd, dd, dd, dd, dd, dd, dd, dd, dd, dd, dd, dd, dd, dd, dd, dd, dd, dd]
noncomputable def J69_10 (G : Gate) (call : CallF) (k n : Nat) (v0 v1 v2 v3 : PV) : R := G 10 (regAt Tryd.prog call 69 [.b, .b, .b, .b, .b, .a, .blk, .lp n, .b, .blk, .b, .a]) (SJ69_10 v0 v1 v2 v3) (behind Tryd.prog H0 G call k 69 [.b, .b, .b, .b, .b, .a, .blk, .lp n, .b, .blk, .b, .a] .normal)
def SJ69_8 (v0 v1 v2 v3 : PV) : St := [dd, AV.o (AO.pv (Ty.int IntKind.i64) v0), AV.o (AO.box 63 [AO.pv (Ty.int IntKind.i64) v1, AO.pv (Ty.int IntKind.i64) v2]), dd, dd, AV.o (AO.pv (Ty.int IntKind.i64) v3), dd, dd, dd, dd, dd, dd, dd, dd, dd, dd, dd, dd, dd, dd, dd, dd, dd, dd, dd, dd, dd, dd, dd, dd, dd, dd, dd, dd, dd, dd, dd]
noncomputable def J69_8 (G : Gate) (call : CallF) (k n : Nat) (v0 v1 v2 v3 : PV) : R := G 8 (regAt Tryd.prog call 69 [.b, .b, .b, .b, .b, .a, .blk, .lp n, .b, .blk, .a, .a]) (SJ69_8 v0 v1 v2 v3) (behind Tryd.prog H0 G call k 69 [.b, .b, .b, .b, .b, .a, .blk, .lp n, .b, .blk, .a, .a] .normal)
def SJ69_12 (v0 v1 v2 : PV) : St := [dd, dd, AV.o (AO.box 63 [AO.pv (Ty.int IntKind.i64) v0, AO.pv (Ty.int IntKind.i64) v1]), dd, dd, AV.o (AO.pv (Ty.int IntKind.i64) v2), dd, dd, dd, dd, dd, dd, dd, dd, dd, dd, dd, dd, dd, dd, dd, dd, dd, dd, dd, dd, dd, dd, dd, dd, dd, dd, dd, dd, dd, dd, dd]
noncomputable def J69_12 (G : Gate) (call : CallF) (k : Nat) (v0 v1 v2 : PV) : R := G 12 (regAt Tryd.prog call 69 [.b, .b, .b, .b, .b, .b, .a]) (SJ69_12 v0 v1 v2) (behind Tryd.prog H0 G call k 69 [.b, .b, .b, .b, .b, .b, .a] .normal)
def S69_7 (v0 v1 v2 v3 : PV) : St := [dd, AV.o (AO.pv (Ty.int IntKind.i64) v0), AV.o (AO.box 63 [AO.pv (Ty.int IntKind.i64) v1, AO.pv (Ty.int IntKind.i64) v2]), dd, dd, AV.o (AO.pv (Ty.int IntKind.i64) v3), dd, dd, dd, dd, dd, dd, dd, dd, dd, dd, dd, dd, dd, dd, dd, dd, dd, dd, dd, dd, dd, dd, dd, dd, dd, dd, dd, dd, dd, dd, dd]
noncomputable def L69_7 (G : Gate) (call : CallF) (k n : Nat) (v0 v1 v2 v3 : PV) : R := loopAt Tryd.prog H0 G call k 69 [.b, .b, .b, .b, .b, .a, .blk] n (S69_7 v0 v1 v2 v3) (behind Tryd.prog H0 G call k 69 [.b, .b, .b, .b, .b, .a, .blk])
def SJ69_4 (v0 v1 v2 v3 v4 v5 : PV) : St := [dd, AV.o (AO.pv (Ty.int IntKind.i64) v0), AV.o (AO.box 63 [AO.pv (Ty.int IntKind.i64) v1, AO.pv (Ty.int IntKind.i64) v2]), dd, dd, AV.o (AO.pv (Ty.int IntKind.i64) v3), dd, AV.ptr 2 [] 0, AV.o (AO.pv (Ty.int IntKind.i64) v4), dd, dd, dd, AV.o (AO.pv (Ty.int IntKind.i64) v5), dd, dd, dd, dd, dd, dd, dd, dd, dd, dd, dd, dd, dd, dd, dd, dd, dd, dd, dd, dd, dd, dd, dd, dd]
noncomputable def J69_4 (G : Gate) (call : CallF) (k : Nat) (v0 v1 v2 v3 v4 v5 : PV) : R := G 4 (regAt Tryd.prog call 69 [.b, .b, .b, .a]) (SJ69_4 v0 v1 v2 v3 v4 v5) (behind Tryd.prog H0 G call k 69 [.b, .b, .b, .a] .normal)
def SJ69_4s1 (v0 v1 v2 v3 v4 : PV) : St := [dd, AV.o (AO.pv (Ty.int IntKind.i64) v0), AV.o (AO.box 63 [AO.pv (Ty.int IntKind.i64) v1, AO.pv (Ty.int IntKind.i64) v2]), dd, dd, AV.o (AO.pv (Ty.int IntKind.i64) v3), dd, AV.ptr 2 [] 0, AV.o (AO.pv (Ty.int IntKind.i64) v4), dd, dd, dd, dd, dd, dd, dd, dd, dd, dd, dd, dd, dd, dd, dd, dd, dd, dd, dd, dd, dd, dd, dd, dd, dd, dd, dd, dd]
noncomputable def J69_4s1 (G : Gate) (call : CallF) (k : Nat) (v0 v1 v2 v3 v4 : PV) : R := G 4 (regAt Tryd.prog call 69 [.b, .b, .b, .a]) (SJ69_4s1 v0 v1 v2 v3 v4) (behind Tryd.prog H0 G call k 69 [.b, .b, .b, .a] .normal)
theorem J69_10_eq (call : CallF) (k n : Nat) (v0 v1 v2 v3 : PV) : J69_10 gate1 call k n v0 v1 v2 v3 =
  L69_7 gate1 call k n (PV.int IntKind.i64 (IntKind.i64.wrap (v0.toInt + 1))) (v1) (v2) (PV.int IntKind.i64 (IntKind.i64.wrap (2 * v3.toInt))) := by rw [J69_10, gate1_app]; kernel_rfl
theorem J69_8_eq (call : CallF) (k n : Nat) (v0 v1 v2 v3 : PV) : J69_8 gate1 call k n v0 v1 v2 v3 =
  bif leI (v2.toInt) (v3.toInt) then
  some ([AO.pv Ty.bool (PV.bool false)], [])
  else
    J69_10 gate1 call k n (v0) (v1) (v2) (v3) := by rw [J69_8, gate1_app]; kernel_rfl
theorem J69_12_eq (call : CallF) (k : Nat) (v0 v1 v2 : PV) : J69_12 gate1 call k v0 v1 v2 =
  some ([AO.pv Ty.bool (PV.bool (ltI (v2.toInt) (v1.toInt)))], []) := by rw [J69_12, gate1_app]; kernel_rfl
theorem L69_7_succ (G : Gate) (call : CallF) (k n : Nat) (v0 v1 v2 v3 : PV) : L69_7 G call k (n + 1) v0 v1 v2 v3 =
  bif ltI (v0.toInt) (0) then
    J69_8 G call k n (v0) (v1) (v2) (v3)
  else
  J69_12 G call k (v1) (v2) (v3) := by kernel_rfl
theorem J69_4_eq (call : CallF) (k : Nat) (v0 v1 v2 v3 v4 v5 : PV) : J69_4 gate1 call k v0 v1 v2 v3 v4 v5 =
  bif eqI (v2.toInt) (0) then
    none
  else
    bif leI (0) (v0.toInt) then
      let c0 := call 49 [AO.pv (Ty.int IntKind.i64) v0]
      bif okRes (Ty.int IntKind.i64) c0 then
        some ([AO.pv Ty.bool (PV.bool (ltI (IntKind.i64.wrap (v3.toInt.tdiv v2.toInt)) ((resPV c0).toInt)))], [])
      else
        none
    else
      L69_7 gate1 call k k (v0) (v1) (v2) (v3) := by rw [J69_4, gate1_app]; kernel_rfl
theorem J69_4s1_eq (call : CallF) (k : Nat) (v0 v1 v2 v3 v4 : PV) : J69_4s1 gate1 call k v0 v1 v2 v3 v4 =
  bif eqI (v2.toInt) (0) then
    none
  else
    bif leI (0) (v0.toInt) then
      let c1 := call 49 [AO.pv (Ty.int IntKind.i64) v0]
      bif okRes (Ty.int IntKind.i64) c1 then
        some ([AO.pv Ty.bool (PV.bool (ltI (IntKind.i64.wrap (v3.toInt.tdiv v2.toInt)) ((resPV c1).toInt)))], [])
      else
        none
    else
      L69_7 gate1 call k k (v0) (v1) (v2) (v3) := by rw [J69_4s1, gate1_app]; kernel_rfl
theorem R69 (call : CallF) (k : Nat) (x0 x1 : PV) : evStep Tryd.prog H0 call k 69 [AO.pv (Ty.st 63) x0, AO.pv (Ty.int IntKind.i64) x1] =
  bif ltI ((x0.cell 0).toInt) (0) then
    J69_4 gate1 call k (x1) (x0.cell 0) (x0.cell 1) (PV.int IntKind.i64 (IntKind.i64.wrap (0 - (x0.cell 0).toInt))) (x0.cell 0) (PV.int IntKind.i64 (IntKind.i64.wrap (0 - (x0.cell 0).toInt)))
  else
    J69_4s1 gate1 call k (x1) (x0.cell 0) (x0.cell 1) (x0.cell 0) (x0.cell 0) := by rw [evStep_eq]; kernel_rfl
def SJ70_6 (v0 v1 v2 v3 v4 v5 v6 v7 v8 v9 : PV) : St := [dd, dd, AV.o (AO.box 23 [AO.pv Ty.str v0, AO.pv (Ty.int IntKind.i64) v1, AO.pv (Ty.int IntKind.i64) v2, AO.pv Ty.str v3, AO.pv Ty.str v4]), dd, AV.o (AO.box 25 [AO.pv (Ty.int IntKind.i64) v5, AO.pv (Ty.int IntKind.i64) v6]), AV.o (AO.pv (Ty.int IntKind.i64) v7), dd, dd, dd, dd, dd, dd, dd, AV.o (AO.pv (Ty.int IntKind.i64) v8), dd, dd, AV.o (AO.pv (Ty.int IntKind.i64) v9), dd, dd, dd, dd]
noncomputable def J70_6 (G : Gate) (call : CallF) (k : Nat) (v0 v1 v2 v3 v4 v5 v6 v7 v8 v9 : PV) : R := G 6 (regAt Tryd.prog call 70 [.b, .b, .b, .b, .a]) (SJ70_6 v0 v1 v2 v3 v4 v5 v6 v7 v8 v9) (behind Tryd.prog H0 G call k 70 [.b, .b, .b, .b, .a] .normal)
def SJ70_6s1 (v0 v1 v2 v3 v4 v5 v6 v7 v8 : PV) : St := [dd, dd, AV.o (AO.box 23 [AO.pv Ty.str v0, AO.pv (Ty.int IntKind.i64) v1, AO.pv (Ty.int IntKind.i64) v2, AO.pv Ty.str v3, AO.pv Ty.str v4]), dd, AV.o (AO.box 25 [AO.pv (Ty.int IntKind.i64) v5, AO.pv (Ty.int IntKind.i64) v6]), AV.o (AO.pv (Ty.int IntKind.i64) v7), dd, dd, dd, dd, dd, dd, dd, AV.o (AO.pv (Ty.int IntKind.i64) v8), dd, dd, dd, dd, dd, dd, dd]
noncomputable def J70_6s1 (G : Gate) (call : CallF) (k : Nat) (v0 v1 v2 v3 v4 v5 v6 v7 v8 : PV) : R := G 6 (regAt Tryd.prog call 70 [.b, .b, .b, .b, .a]) (SJ70_6s1 v0 v1 v2 v3 v4 v5 v6 v7 v8) (behind Tryd.prog H0 G call k 70 [.b, .b, .b, .b, .a] .normal)
def SJ70_3 (v0 v1 v2 v3 v4 v5 v6 v7 : PV) : St := [dd, AV.o (AO.pv Ty.bool v0), AV.o (AO.box 23 [AO.pv Ty.str v1, AO.pv (Ty.int IntKind.i64) v2, AO.pv (Ty.int IntKind.i64) v3, AO.pv Ty.str v4, AO.pv Ty.str v5]), dd, AV.o (AO.box 25 [AO.pv (Ty.int IntKind.i64) v6, AO.pv (Ty.int IntKind.i64) v7]), dd, dd, dd, dd, dd, dd, dd, dd, dd, dd, dd, dd, dd, dd, dd, dd]
noncomputable def J70_3 (G : Gate) (call : CallF) (k : Nat) (v0 v1 v2 v3 v4 v5 v6 v7 : PV) : R := G 3 (regAt Tryd.prog call 70 [.b, .b, .a]) (SJ70_3 v0 v1 v2 v3 v4 v5 v6 v7) (behind Tryd.prog H0 G call k 70 [.b, .b, .a] .normal)
theorem J70_6_eq (call : CallF) (k : Nat) (v0 v1 v2 v3 v4 v5 v6 v7 v8 v9 : PV) : J70_6 gate1 call k v0 v1 v2 v3 v4 v5 v6 v7 v8 v9 =
  let c2 := call 50 [AO.pv (Ty.int IntKind.i64) v7, AO.pv (Ty.int IntKind.i64) v2]
  bif okRes (Ty.st 25) c2 then
    some ([AO.pv (Ty.st 25) (PV.agg [(resPV c2).cell 0, (resPV c2).cell 1])], [])
  else
    none := by rw [J70_6, gate1_app]; kernel_rfl
theorem J70_6s1_eq (call : CallF) (k : Nat) (v0 v1 v2 v3 v4 v5 v6 v7 v8 : PV) : J70_6s1 gate1 call k v0 v1 v2 v3 v4 v5 v6 v7 v8 =
  let c3 := call 50 [AO.pv (Ty.int IntKind.i64) v7, AO.pv (Ty.int IntKind.i64) v2]
  bif okRes (Ty.st 25) c3 then
    some ([AO.pv (Ty.st 25) (PV.agg [(resPV c3).cell 0, (resPV c3).cell 1])], [])
  else
    none := by rw [J70_6s1, gate1_app]; kernel_rfl
theorem J70_3_eq (call : CallF) (k : Nat) (v0 v1 v2 v3 v4 v5 v6 v7 : PV) : J70_3 gate1 call k v0 v1 v2 v3 v4 v5 v6 v7 =
  let c1 := call 49 [AO.pv (Ty.int IntKind.i64) v2]
  bif okRes (Ty.int IntKind.i64) c1 then
    bif v0.toBool then
      J70_6 gate1 call k (v1) (v2) (v3) (v4) (v5) (v6) (v7) (PV.int IntKind.i64 (IntKind.i64.wrap (0 - IntKind.i64.wrap ((resPV c1).toInt - 1)))) (PV.int IntKind.i64 (IntKind.i64.wrap ((resPV c1).toInt - 1))) (PV.int IntKind.i64 (IntKind.i64.wrap (0 - IntKind.i64.wrap ((resPV c1).toInt - 1))))
    else
      J70_6s1 gate1 call k (v1) (v2) (v3) (v4) (v5) (v6) (v7) (PV.int IntKind.i64 (IntKind.i64.wrap ((resPV c1).toInt - 1))) (PV.int IntKind.i64 (IntKind.i64.wrap ((resPV c1).toInt - 1)))
  else
    none := by rw [J70_3, gate1_app]; kernel_rfl
theorem R70 (call : CallF) (k : Nat) (x0 x1 : PV) : evStep Tryd.prog H0 call k 70 [AO.pv (Ty.st 23) x0, AO.pv Ty.bool x1] =
  bif !(x0.cell 4).toStr.data.toList == (ByteArray.mk #[115, 97, 116]).data.toList then
    let c0 := call 48 []
    bif okRes (Ty.st 25) c0 then
      some ([AO.pv (Ty.st 25) (PV.agg [(resPV c0).cell 0, (resPV c0).cell 1])], [])
    else
      none
  else
    J70_3 gate1 call k (x1) (x0.cell 0) (x0.cell 1) (x0.cell 2) (x0.cell 3) (x0.cell 4) (PV.int IntKind.i64 0) (PV.int IntKind.i64 0) := by rw [evStep_eq]; kernel_rfl
def SJ75_4 (v0 v1 v2 : PV) : St := [dd, dd, dd, dd, dd, AV.o (AO.pv (Ty.int IntKind.i64) v0), dd, dd, AV.o (AO.pv (Ty.int IntKind.i64) v1), dd, dd, dd, dd, dd, AV.o (AO.pv (Ty.int IntKind.i64) v2), dd]
noncomputable def J75_4 (G : Gate) (call : CallF) (k : Nat) (v0 v1 v2 : PV) : R := G 4 (regAt Tryd.prog call 75 [.b, .b, .b, .a]) (SJ75_4 v0 v1 v2) (behind Tryd.prog H0 G call k 75 [.b, .b, .b, .a] .normal)
def SJ75_4s1 (v0 v1 : PV) : St := [dd, dd, dd, dd, dd, AV.o (AO.pv (Ty.int IntKind.i64) v0), dd, dd, AV.o (AO.pv (Ty.int IntKind.i64) v1), dd, dd, dd, dd, dd, dd, dd]
noncomputable def J75_4s1 (G : Gate) (call : CallF) (k : Nat) (v0 v1 : PV) : R := G 4 (regAt Tryd.prog call 75 [.b, .b, .b, .a]) (SJ75_4s1 v0 v1) (behind Tryd.prog H0 G call k 75 [.b, .b, .b, .a] .normal)
theorem J75_4_eq (call : CallF) (k : Nat) (v0 v1 v2 : PV) : J75_4 gate1 call k v0 v1 v2 =
  some ([AO.pv (Ty.int IntKind.i64) v0], []) := by rw [J75_4, gate1_app]; kernel_rfl
theorem J75_4s1_eq (call : CallF) (k : Nat) (v0 v1 : PV) : J75_4s1 gate1 call k v0 v1 =
  some ([AO.pv (Ty.int IntKind.i64) v0], []) := by rw [J75_4s1, gate1_app]; kernel_rfl
theorem R75 (call : CallF) (k : Nat) (x0 x1 : PV) : evStep Tryd.prog H0 call k 75 [AO.pv (Ty.int IntKind.i64) x0, AO.pv (Ty.int IntKind.i64) x1] =
  bif eqI (x1.toInt) (0) then
    none
  else
    bif eqI (x1.toInt) (0) then
      none
    else
      bif ltI (x0.toInt.tmod x1.toInt) (0) then
        J75_4 gate1 call k (PV.int IntKind.i64 (IntKind.i64.wrap (IntKind.i64.wrap (x0.toInt.tdiv x1.toInt) - 1))) (PV.int IntKind.i64 (IntKind.i64.wrap (x0.toInt.tdiv x1.toInt))) (PV.int IntKind.i64 (IntKind.i64.wrap (IntKind.i64.wrap (x0.toInt.tdiv x1.toInt) - 1)))
      else
        J75_4s1 gate1 call k (PV.int IntKind.i64 (IntKind.i64.wrap (x0.toInt.tdiv x1.toInt))) (PV.int IntKind.i64 (IntKind.i64.wrap (x0.toInt.tdiv x1.toInt))) := by rw [evStep_eq]; kernel_rfl
def SJ76_5 (v0 v1 : PV) : St := [dd, AV.o (AO.pv (Ty.int IntKind.i64) v0), dd, dd, dd, dd, dd, dd, dd, dd, dd, dd, dd, dd, dd, dd, dd, dd, dd, dd, dd, dd, dd, dd, dd, dd, dd, dd, dd, AV.o (AO.pv Ty.bool v1), dd, dd, dd, dd, dd, dd, dd, dd, dd, dd, dd, dd, dd, dd, dd, dd, dd, dd, dd, dd, dd, dd, dd, dd, dd, dd, dd, dd, dd, dd, dd, dd, dd, dd, dd, dd, dd, dd, dd, dd, dd, dd, dd, dd, dd, dd, dd, dd, dd, dd, dd, dd, dd, dd, dd]
noncomputable def J76_5 (G : Gate) (call : CallF) (k : Nat) (v0 v1 : PV) : R := G 5 (regAt Tryd.prog call 76 [.b, .b, .a, .b, .blk, .b, .x, .b, .x, .a]) (SJ76_5 v0 v1) (behind Tryd.prog H0 G call k 76 [.b, .b, .a, .b, .blk, .b, .x, .b, .x, .a] .normal)
def SJ76_19 (v0 : PV) : St := [dd, AV.o (AO.pv (Ty.int IntKind.i64) v0), dd, dd, dd, dd, dd, dd, dd, dd, dd, dd, dd, dd, dd, dd, dd, dd, dd, dd, dd, dd, dd, dd, dd, dd, dd, dd, dd, dd, dd, dd, dd, dd, dd, dd, dd, dd, dd, dd, dd, dd, dd, dd, dd, dd, dd, dd, dd, dd, dd, dd, dd, dd, dd, dd, dd, dd, dd, dd, dd, dd, dd, dd, dd, dd, dd, dd, dd, dd, dd, dd, dd, dd, dd, dd, dd, dd, dd, dd, dd, dd, dd, dd, dd]
noncomputable def J76_19 (G : Gate) (call : CallF) (k : Nat) (v0 : PV) : R := G 19 (regAt Tryd.prog call 76 [.b, .b, .b, .a]) (SJ76_19 v0) (behind Tryd.prog H0 G call k 76 [.b, .b, .b, .a] .normal)
def SJ76_18 (v0 v1 : PV) : St := [dd, AV.o (AO.pv (Ty.int IntKind.i64) v0), dd, dd, dd, dd, dd, dd, dd, dd, dd, dd, dd, dd, dd, dd, dd, dd, dd, dd, dd, dd, dd, dd, dd, dd, dd, dd, dd, dd, dd, dd, dd, dd, dd, dd, dd, dd, dd, dd, dd, dd, dd, dd, dd, dd, dd, dd, dd, dd, dd, dd, dd, dd, dd, dd, dd, dd, dd, dd, dd, dd, dd, dd, dd, dd, dd, dd, dd, dd, dd, dd, dd, dd, dd, dd, dd, dd, dd, dd, dd, AV.o (AO.pv Ty.bool v1), dd, dd, dd]
noncomputable def J76_18 (G : Gate) (call : CallF) (k : Nat) (v0 v1 : PV) : R := G 18 (regAt Tryd.prog call 76 [.b, .b, .a, .b, .blk, .b, .y, .b, .y, .b, .x, .b, .b, .b, .b, .x, .a]) (SJ76_18 v0 v1) (behind Tryd.prog H0 G call k 76 [.b, .b, .a, .b, .blk, .b, .y, .b, .y, .b, .x, .b, .b, .b, .b, .x, .a] .normal)
def SJ76_17 (v0 v1 v2 v3 v4 : PV) : St := [dd, AV.o (AO.pv (Ty.int IntKind.i64) v0), dd, dd, dd, dd, dd, dd, dd, dd, dd, dd, dd, dd, AV.o (AO.pv Ty.bool v1), AV.o (AO.pv Ty.bool v2), dd, dd, dd, dd, dd, dd, dd, dd, dd, dd, dd, dd, dd, dd, dd, dd, dd, dd, dd, dd, dd, dd, dd, dd, dd, dd, dd, dd, dd, AV.o (AO.pv Ty.bool v3), dd, dd, dd, dd, AV.o (AO.pv Ty.bool v4), dd, dd, dd, dd, dd, dd, dd, dd, dd, dd, dd, dd, dd, dd, dd, dd, dd, dd, dd, dd, dd, dd, dd, dd, dd, dd, dd, dd, dd, dd, dd, dd, dd, dd]
noncomputable def J76_17 (G : Gate) (call : CallF) (k : Nat) (v0 v1 v2 v3 v4 : PV) : R := G 17 (regAt Tryd.prog call 76 [.b, .b, .a, .b, .blk, .b, .y, .b, .y, .b, .x, .b, .b, .b, .a]) (SJ76_17 v0 v1 v2 v3 v4) (behind Tryd.prog H0 G call k 76 [.b, .b, .a, .b, .blk, .b, .y, .b, .y, .b, .x, .b, .b, .b, .a] .normal)
def SJ76_17s1 (v0 v1 v2 v3 v4 : PV) : St := [dd, AV.o (AO.pv (Ty.int IntKind.i64) v0), dd, dd, dd, dd, dd, dd, dd, dd, dd, dd, dd, dd, AV.o (AO.pv Ty.bool v1), AV.o (AO.pv Ty.bool v2), dd, dd, dd, dd, dd, dd, dd, dd, dd, dd, dd, dd, dd, dd, dd, dd, dd, dd, dd, dd, dd, dd, dd, dd, dd, dd, dd, dd, dd, dd, dd, dd, dd, dd, dd, dd, dd, dd, dd, dd, dd, dd, dd, dd, dd, dd, dd, dd, AV.o (AO.pv Ty.bool v3), dd, dd, dd, dd, dd, dd, dd, AV.o (AO.pv Ty.bool v4), dd, dd, dd, dd, dd, dd, dd, dd, dd, dd, dd, dd]
noncomputable def J76_17s1 (G : Gate) (call : CallF) (k : Nat) (v0 v1 v2 v3 v4 : PV) : R := G 17 (regAt Tryd.prog call 76 [.b, .b, .a, .b, .blk, .b, .y, .b, .y, .b, .x, .b, .b, .b, .a]) (SJ76_17s1 v0 v1 v2 v3 v4) (behind Tryd.prog H0 G call k 76 [.b, .b, .a, .b, .blk, .b, .y, .b, .y, .b, .x, .b, .b, .b, .a] .normal)
def SJ76_16 (v0 v1 v2 v3 v4 v5 : PV) : St := [dd, AV.o (AO.pv (Ty.int IntKind.i64) v0), AV.o (AO.pv (Ty.int IntKind.i64) v1), AV.o (AO.pv (Ty.int IntKind.i64) v2), AV.o (AO.pv (Ty.int IntKind.i64) v3), dd, dd, dd, dd, dd, dd, dd, dd, dd, AV.o (AO.pv Ty.bool v4), dd, dd, dd, dd, dd, dd, dd, dd, dd, dd, dd, dd, dd, dd, dd, dd, dd, dd, dd, dd, dd, dd, dd, dd, dd, dd, dd, dd, dd, dd, dd, dd, dd, dd, dd, dd, dd, dd, dd, dd, dd, dd, dd, dd, dd, dd, dd, dd, dd, AV.o (AO.pv Ty.bool v5), dd, dd, dd, dd, dd, dd, dd, dd, dd, dd, dd, dd, dd, dd, dd, dd, dd, dd, dd, dd]
noncomputable def J76_16 (G : Gate) (call : CallF) (k : Nat) (v0 v1 v2 v3 v4 v5 : PV) : R := G 16 (regAt Tryd.prog call 76 [.b, .b, .a, .b, .blk, .b, .y, .b, .y, .b, .x, .b, .b, .a, .b, .y, .b]) (SJ76_16 v0 v1 v2 v3 v4 v5) (behind Tryd.prog H0 G call k 76 [.b, .b, .a, .b, .blk, .b, .y, .b, .y, .b, .x, .b, .b, .a, .b, .y, .b] .normal)
def SJ76_2 (v0 v1 v2 v3 v4 v5 v6 v7 : PV) : St := [AV.o (AO.pv Ty.str v0), AV.o (AO.pv (Ty.int IntKind.i64) v1), AV.o (AO.pv (Ty.int IntKind.i64) v2), AV.o (AO.pv (Ty.int IntKind.i64) v3), AV.o (AO.pv (Ty.int IntKind.i64) v4), AV.o (AO.pv (Ty.int IntKind.i64) v5), dd, dd, dd, dd, dd, dd, dd, AV.o (AO.pv Ty.bool v6), dd, dd, dd, dd, dd, dd, dd, AV.o (AO.pv Ty.bool v7), dd, dd, dd, dd, dd, dd, dd, dd, dd, dd, dd, dd, dd, dd, dd, dd, dd, dd, dd, dd, dd, dd, dd, dd, dd, dd, dd, dd, dd, dd, dd, dd, dd, dd, dd, dd, dd, dd, dd, dd, dd, dd, dd, dd, dd, dd, dd, dd, dd, dd, dd, dd, dd, dd, dd, dd, dd, dd, dd, dd, dd, dd, dd]
noncomputable def J76_2 (G : Gate) (call : CallF) (k : Nat) (v0 v1 v2 v3 v4 v5 v6 v7 : PV) : R := G 2 (regAt Tryd.prog call 76 [.b, .b, .a, .a]) (SJ76_2 v0 v1 v2 v3 v4 v5 v6 v7) (behind Tryd.prog H0 G call k 76 [.b, .b, .a, .a] .normal)
theorem J76_5_eq (call : CallF) (k : Nat) (v0 v1 : PV) : J76_5 gate1 call k v0 v1 =
  some ([AO.pv (Ty.int IntKind.i64) (PV.int IntKind.i64 (IntKind.i64.wrap (v0.toInt + 1)))], []) := by rw [J76_5, gate1_app]; kernel_rfl
theorem J76_19_eq (call : CallF) (k : Nat) (v0 : PV) : J76_19 gate1 call k v0 =
  some ([AO.pv (Ty.int IntKind.i64) v0], []) := by rw [J76_19, gate1_app]; kernel_rfl
theorem J76_18_eq (call : CallF) (k : Nat) (v0 v1 : PV) : J76_18 gate1 call k v0 v1 =
  some ([AO.pv (Ty.int IntKind.i64) (PV.int IntKind.i64 (IntKind.i64.wrap (v0.toInt + 1)))], []) := by rw [J76_18, gate1_app]; kernel_rfl
theorem J76_17_eq (call : CallF) (k : Nat) (v0 v1 v2 v3 v4 : PV) : J76_17 gate1 call k v0 v1 v2 v3 v4 =
  bif v1.toBool then
    J76_18 gate1 call k (v0) (PV.bool true)
  else
    bif v2.toBool then
      bif !eqI (v0.toInt.tmod 2) (0) then
        J76_18 gate1 call k (v0) (PV.bool true)
      else
        J76_19 gate1 call k (v0)
    else
      J76_19 gate1 call k (v0) := by rw [J76_17, gate1_app]; kernel_rfl
theorem J76_17s1_eq (call : CallF) (k : Nat) (v0 v1 v2 v3 v4 : PV) : J76_17s1 gate1 call k v0 v1 v2 v3 v4 =
  bif v1.toBool then
    J76_18 gate1 call k (v0) (PV.bool true)
  else
    bif v2.toBool then
      bif !eqI (v0.toInt.tmod 2) (0) then
        J76_18 gate1 call k (v0) (PV.bool true)
      else
        J76_19 gate1 call k (v0)
    else
      J76_19 gate1 call k (v0) := by rw [J76_17s1, gate1_app]; kernel_rfl
theorem J76_16_eq (call : CallF) (k : Nat) (v0 v1 v2 v3 v4 v5 : PV) : J76_16 gate1 call k v0 v1 v2 v3 v4 v5 =
  bif eqI (v1.toInt) (IntKind.i64.wrap (v2.toInt.tdiv 2)) then
    J76_17s1 gate1 call k (v0) (v4) (PV.bool (eqI (v3.toInt) (0))) (v5) (PV.bool (eqI (v3.toInt) (0)))
  else
    J76_17s1 gate1 call k (v0) (v4) (PV.bool false) (v5) (PV.bool false) := by rw [J76_16, gate1_app]; kernel_rfl
theorem J76_2_eq (call : CallF) (k : Nat) (v0 v1 v2 v3 v4 v5 v6 v7 : PV) : J76_2 gate1 call k v0 v1 v2 v3 v4 v5 v6 v7 =
  bif v0.toStr.data.toList == (ByteArray.mk #[122, 101, 114, 111]).data.toList then
    bif ltI (v1.toInt) (0) then
      bif v6.toBool then
        J76_5 gate1 call k (v1) (PV.bool true)
      else
        J76_19 gate1 call k (v1)
    else
      J76_19 gate1 call k (v1)
  else
    bif v0.toStr.data.toList == (ByteArray.mk #[117, 112]).data.toList then
      bif v6.toBool then
        some ([AO.pv (Ty.int IntKind.i64) (PV.int IntKind.i64 (IntKind.i64.wrap (v1.toInt + 1)))], [])
      else
        J76_19 gate1 call k (v1)
    else
      bif v0.toStr.data.toList == (ByteArray.mk #[110, 101, 97, 114]).data.toList then
        bif eqI (v3.toInt) (1) then
          J76_17 gate1 call k (v1) (PV.bool (ltI (IntKind.i64.wrap (v5.toInt - v4.toInt)) (v4.toInt))) (PV.bool (eqI (v4.toInt) (IntKind.i64.wrap (v5.toInt - v4.toInt)))) (PV.bool (ltI (IntKind.i64.wrap (v5.toInt - v4.toInt)) (v4.toInt))) (PV.bool (eqI (v4.toInt) (IntKind.i64.wrap (v5.toInt - v4.toInt))))
        else
          bif ltI (IntKind.i64.wrap (v3.toInt.tdiv 2)) (v2.toInt) then
            J76_16 gate1 call k (v1) (v2) (v3) (v4) (PV.bool true) (PV.bool true)
          else
            bif eqI (v2.toInt) (IntKind.i64.wrap (v3.toInt.tdiv 2)) then
              J76_16 gate1 call k (v1) (v2) (v3) (v4) (PV.bool (ltI (0) (v4.toInt))) (PV.bool (ltI (0) (v4.toInt)))
            else
              J76_16 gate1 call k (v1) (v2) (v3) (v4) (PV.bool false) (PV.bool false)
      else
        J76_19 gate1 call k (v1) := by rw [J76_2, gate1_app]; kernel_rfl
theorem R76 (call : CallF) (k : Nat) (x0 x1 x2 x3 x4 x5 : PV) : evStep Tryd.prog H0 call k 76 [AO.pv Ty.str x0, AO.pv (Ty.int IntKind.i64) x1, AO.pv (Ty.int IntKind.i64) x2, AO.pv (Ty.int IntKind.i64) x3, AO.pv (Ty.int IntKind.i64) x4, AO.pv (Ty.int IntKind.i64) x5] =
  bif ltI (0) (x2.toInt) then
    J76_2 gate1 call k (x0) (x1) (x2) (x3) (x4) (x5) (PV.bool true) (PV.bool true)
  else
    J76_2 gate1 call k (x0) (x1) (x2) (x3) (x4) (x5) (PV.bool (ltI (0) (x4.toInt))) (PV.bool (ltI (0) (x4.toInt))) := by rw [evStep_eq]; kernel_rfl
end Go.V
