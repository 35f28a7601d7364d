/- What the evaluator makes of the law's functions, each as an equation of its own with its calls left open; and math/bits.Add64 as the model runs it. Conditions: none. -/
import Derived.Test.YtegnaiffnkklpaaDoorVH
import Derived.Laws.Externs
set_option maxRecDepth 100000
set_option linter.unusedVariables false
namespace Go.V
open Go.Proofs
def SJ5_18  : St := [dd, dd, dd, dd, dd, dd, dd, dd, dd, dd, dd, dd, dd, dd, dd, dd, dd, dd, dd, dd, dd, dd, dd, dd, dd, dd, dd, dd, dd, dd, dd, dd, dd, dd, dd, dd, dd, dd, dd, dd, dd, dd, dd, dd, dd, dd, dd, dd, dd, dd, dd, dd, dd, dd, dd, dd, dd, dd, dd, dd, dd, dd, dd, dd, dd, dd, dd, dd, dd, dd, dd, dd, dd, dd, dd, dd, dd]
noncomputable def J5_18 (G : Gate) (call : CallF) (k : Nat)  : R := G 18 (regAt Tryd.prog call 5 [.b, .b, .b, .b, .a]) (SJ5_18 ) (behind Tryd.prog H0 G call k 5 [.b, .b, .b, .b, .a] .normal)
def SJ5_13 (v0 v1 v2 v3 v4 : PV) : St := [dd, AV.o (AO.box 23 [AO.pv Ty.str v0, AO.pv (Ty.int IntKind.i64) v1, AO.pv (Ty.int IntKind.i64) v2, AO.pv Ty.str v3, AO.pv Ty.str v4]), dd, dd, dd, dd, dd, dd, dd, dd, dd, dd, dd, dd, dd, dd, dd, dd, dd, dd, dd, dd, dd, dd, dd, dd, dd, dd, dd, dd, dd, dd, dd, dd, dd, dd, dd, dd, dd, dd, dd, dd, dd, dd, dd, dd, dd, dd, dd, dd, dd, dd, dd, dd, dd, dd, dd, dd, dd, dd, dd, dd, dd, dd, dd, dd, dd, dd, dd, dd, dd, dd, dd, dd, dd, dd, dd]
noncomputable def J5_13 (G : Gate) (call : CallF) (k : Nat) (v0 v1 v2 v3 v4 : PV) : R := G 13 (regAt Tryd.prog call 5 [.b, .b, .b, .a, .a]) (SJ5_13 v0 v1 v2 v3 v4) (behind Tryd.prog H0 G call k 5 [.b, .b, .b, .a, .a] .normal)
def SJ5_10 (v0 v1 v2 v3 v4 v5 v6 v7 v8 : PV) : St := [dd, AV.o (AO.box 23 [AO.pv Ty.str v0, AO.pv (Ty.int IntKind.i64) v1, AO.pv (Ty.int IntKind.i64) v2, AO.pv Ty.str v3, AO.pv Ty.str v4]), dd, dd, dd, dd, dd, dd, dd, AV.ptr 1 [] 4, AV.o (AO.pv Ty.str v5), AV.o (AO.pv Ty.bool v6), AV.o (AO.pv Ty.bool v7), AV.o (AO.pv Ty.bool v8), dd, dd, dd, dd, dd, dd, dd, dd, dd, dd, dd, dd, dd, dd, dd, dd, dd, dd, dd, dd, dd, dd, dd, dd, dd, dd, dd, dd, dd, dd, dd, dd, dd, dd, dd, dd, dd, dd, dd, dd, dd, dd, dd, dd, dd, dd, dd, dd, dd, dd, dd, dd, dd, dd, dd, dd, dd, dd, dd, dd, dd, dd, dd]
noncomputable def J5_10 (G : Gate) (call : CallF) (k : Nat) (v0 v1 v2 v3 v4 v5 v6 v7 v8 : PV) : R := G 10 (regAt Tryd.prog call 5 [.b, .b, .a, .b, .blk, .b, .y, .a]) (SJ5_10 v0 v1 v2 v3 v4 v5 v6 v7 v8) (behind Tryd.prog H0 G call k 5 [.b, .b, .a, .b, .blk, .b, .y, .a] .normal)
def SJ5_6 (v0 v1 v2 v3 v4 : PV) : St := [dd, AV.o (AO.box 23 [AO.pv Ty.str v0, AO.pv (Ty.int IntKind.i64) v1, AO.pv (Ty.int IntKind.i64) v2, AO.pv Ty.str v3, AO.pv Ty.str v4]), dd, dd, dd, dd, dd, dd, dd, dd, dd, dd, dd, dd, dd, dd, dd, dd, dd, dd, dd, dd, dd, dd, dd, dd, dd, dd, dd, dd, dd, dd, dd, dd, dd, dd, dd, dd, dd, dd, dd, dd, dd, dd, dd, dd, dd, dd, dd, dd, dd, dd, dd, dd, dd, dd, dd, dd, dd, dd, dd, dd, dd, dd, dd, dd, dd, dd, dd, dd, dd, dd, dd, dd, dd, dd, dd]
noncomputable def J5_6 (G : Gate) (call : CallF) (k : Nat) (v0 v1 v2 v3 v4 : PV) : R := G 6 (regAt Tryd.prog call 5 [.b, .b, .a, .a]) (SJ5_6 v0 v1 v2 v3 v4) (behind Tryd.prog H0 G call k 5 [.b, .b, .a, .a] .normal)
def SJ5_2 (v0 v1 v2 v3 v4 v5 v6 v7 v8 : PV) : St := [dd, AV.o (AO.box 23 [AO.pv Ty.str v0, AO.pv (Ty.int IntKind.i64) v1, AO.pv (Ty.int IntKind.i64) v2, AO.pv Ty.str v3, AO.pv Ty.str v4]), dd, dd, dd, AV.o (AO.pv Ty.bool v5), AV.o (AO.pv Ty.bool v6), AV.o (AO.pv Ty.bool v7), AV.o (AO.pv Ty.bool v8), dd, dd, dd, dd, dd, dd, dd, dd, dd, dd, dd, dd, dd, dd, dd, dd, dd, dd, dd, dd, dd, dd, dd, dd, dd, dd, dd, dd, dd, dd, dd, dd, dd, dd, dd, dd, dd, dd, dd, dd, dd, dd, dd, dd, dd, dd, dd, dd, dd, dd, dd, dd, dd, dd, dd, dd, dd, dd, dd, dd, dd, dd, dd, dd, dd, dd, dd, dd]
noncomputable def J5_2 (G : Gate) (call : CallF) (k : Nat) (v0 v1 v2 v3 v4 v5 v6 v7 v8 : PV) : R := G 2 (regAt Tryd.prog call 5 [.b, .a, .b, .blk, .b, .y, .a]) (SJ5_2 v0 v1 v2 v3 v4 v5 v6 v7 v8) (behind Tryd.prog H0 G call k 5 [.b, .a, .b, .blk, .b, .y, .a] .normal)
theorem J5_18_eq (call : CallF) (k : Nat)  : J5_18 gate1 call k  =
  some ([AO.pv Ty.bool (PV.bool false)], []) := by rw [J5_18, gate1_app]; kernel_rfl
theorem J5_13_eq (call : CallF) (k : Nat) (v0 v1 v2 v3 v4 : PV) : J5_13 gate1 call k v0 v1 v2 v3 v4 =
  bif v0.toStr.data.toList == (ByteArray.mk #[102, 105, 120]).data.toList then
    bif leI (0) (v1.toInt) then
      bif leI (0) (v2.toInt) then
        bif leI (v1.toInt) (30) then
          bif leI (v2.toInt) (30) then
            some ([AO.pv Ty.bool (PV.bool (leI (IntKind.i64.wrap (v1.toInt + v2.toInt)) (30)))], [])
          else
            some ([AO.pv Ty.bool (PV.bool false)], [])
        else
          some ([AO.pv Ty.bool (PV.bool false)], [])
      else
        some ([AO.pv Ty.bool (PV.bool false)], [])
    else
      some ([AO.pv Ty.bool (PV.bool false)], [])
  else
    bif v0.toStr.data.toList == (ByteArray.mk #[102, 108, 111, 97, 116]).data.toList then
      bif leI (1) (v1.toInt) then
        bif leI (v1.toInt) (24) then
          bif leI (0) (v2.toInt) then
            bif leI (v2.toInt) (20) then
              some ([AO.pv Ty.bool (PV.bool (leI (IntKind.i64.wrap (v1.toInt + v2.toInt)) (30)))], [])
            else
              some ([AO.pv Ty.bool (PV.bool false)], [])
          else
            some ([AO.pv Ty.bool (PV.bool false)], [])
        else
          some ([AO.pv Ty.bool (PV.bool false)], [])
      else
        some ([AO.pv Ty.bool (PV.bool false)], [])
    else
      J5_18 gate1 call k  := by rw [J5_13, gate1_app]; kernel_rfl
theorem J5_10_eq (call : CallF) (k : Nat) (v0 v1 v2 v3 v4 v5 v6 v7 v8 : PV) : J5_10 gate1 call k v0 v1 v2 v3 v4 v5 v6 v7 v8 =
  bif v5.toStr.data.toList == (ByteArray.mk #[119, 114, 97, 112]).data.toList then
    bif !v0.toStr.data.toList == (ByteArray.mk #[102, 105, 120]).data.toList then
      some ([AO.pv Ty.bool (PV.bool false)], [])
    else
      J5_13 gate1 call k (v0) (v1) (v2) (v3) (v4)
  else
    some ([AO.pv Ty.bool (PV.bool false)], []) := by rw [J5_10, gate1_app]; kernel_rfl
theorem J5_6_eq (call : CallF) (k : Nat) (v0 v1 v2 v3 v4 : PV) : J5_6 gate1 call k v0 v1 v2 v3 v4 =
  bif v4.toStr.data.toList == (ByteArray.mk #[115, 97, 116]).data.toList then
    J5_13 gate1 call k (v0) (v1) (v2) (v3) (v4)
  else
    bif v4.toStr.data.toList == (ByteArray.mk #[110, 111, 110, 101]).data.toList then
      J5_13 gate1 call k (v0) (v1) (v2) (v3) (v4)
    else
      J5_10 gate1 call k (v0) (v1) (v2) (v3) (v4) (v4) (PV.bool false) (PV.bool (v4.toStr.data.toList == (ByteArray.mk #[115, 97, 116]).data.toList)) (PV.bool (v4.toStr.data.toList == (ByteArray.mk #[110, 111, 110, 101]).data.toList)) := by rw [J5_6, gate1_app]; kernel_rfl
theorem J5_2_eq (call : CallF) (k : Nat) (v0 v1 v2 v3 v4 v5 v6 v7 v8 : PV) : J5_2 gate1 call k v0 v1 v2 v3 v4 v5 v6 v7 v8 =
  some ([AO.pv Ty.bool (PV.bool false)], []) := by rw [J5_2, gate1_app]; kernel_rfl
theorem R5 (call : CallF) (k : Nat) (x0 : PV) : evStep Tryd.prog H0 call k 5 [AO.pv (Ty.st 23) x0] =
  bif (x0.cell 3).toStr.data.toList == (ByteArray.mk #[102, 108, 111, 111, 114]).data.toList then
    J5_6 gate1 call k (x0.cell 0) (x0.cell 1) (x0.cell 2) (x0.cell 3) (x0.cell 4)
  else
    bif (x0.cell 3).toStr.data.toList == (ByteArray.mk #[110, 101, 97, 114]).data.toList then
      J5_6 gate1 call k (x0.cell 0) (x0.cell 1) (x0.cell 2) (x0.cell 3) (x0.cell 4)
    else
      bif (x0.cell 3).toStr.data.toList == (ByteArray.mk #[122, 101, 114, 111]).data.toList then
        J5_6 gate1 call k (x0.cell 0) (x0.cell 1) (x0.cell 2) (x0.cell 3) (x0.cell 4)
      else
        J5_2 gate1 call k (x0.cell 0) (x0.cell 1) (x0.cell 2) (x0.cell 3) (x0.cell 4) (PV.bool false) (PV.bool ((x0.cell 3).toStr.data.toList == (ByteArray.mk #[102, 108, 111, 111, 114]).data.toList)) (PV.bool ((x0.cell 3).toStr.data.toList == (ByteArray.mk #[110, 101, 97, 114]).data.toList)) (PV.bool ((x0.cell 3).toStr.data.toList == (ByteArray.mk #[122, 101, 114, 111]).data.toList)) := by rw [evStep_eq]; kernel_rfl
def SJ14_14 (v0 v1 v2 v3 v4 v5 v6 v7 v8 v9 v10 v11 v12 v13 v14 : PV) : St := [AV.o (AO.pv Ty.str v0), dd, AV.o (AO.box 23 [AO.pv Ty.str v1, AO.pv (Ty.int IntKind.i64) v2, AO.pv (Ty.int IntKind.i64) v3, AO.pv Ty.str v4, AO.pv Ty.str v5]), dd, AV.o (AO.pv (Ty.int IntKind.i64) v6), AV.o (AO.pv (Ty.int IntKind.i64) v7), AV.o (AO.pv (Ty.int IntKind.i64) v8), AV.o (AO.box 23 [AO.pv Ty.str v9, AO.pv (Ty.int IntKind.i64) v10, AO.pv (Ty.int IntKind.i64) v11, AO.pv Ty.str v12, AO.pv Ty.str v13]), dd, dd, dd, dd, dd, dd, dd, dd, dd, dd, dd, dd, dd, dd, dd, dd, dd, dd, dd, dd, dd, dd, dd, dd, dd, dd, dd, dd, dd, AV.o (AO.pv Ty.bool v14), dd, dd]
noncomputable def J14_14 (G : Gate) (call : CallF) (k m1 m2 n : Nat) (v0 v1 v2 v3 v4 v5 v6 v7 v8 v9 v10 v11 v12 v13 v14 : PV) : R := G 14 (regAt Tryd.prog call 14 [.b, .b, .a, .b, .blk, .lp m1, .b, .a, .blk, .b, .blk, .lp m2, .b, .a, .blk, .b, .blk, .lp n, .b, .a, .blk, .b, .b, .x, .a]) (SJ14_14 v0 v1 v2 v3 v4 v5 v6 v7 v8 v9 v10 v11 v12 v13 v14) (behind Tryd.prog H0 G call k 14 [.b, .b, .a, .b, .blk, .lp m1, .b, .a, .blk, .b, .blk, .lp m2, .b, .a, .blk, .b, .blk, .lp n, .b, .a, .blk, .b, .b, .x, .a] .normal)
def SJ14_11 (v0 v1 v2 v3 v4 v5 v6 v7 v8 : PV) : St := [AV.o (AO.pv Ty.str v0), dd, AV.o (AO.box 23 [AO.pv Ty.str v1, AO.pv (Ty.int IntKind.i64) v2, AO.pv (Ty.int IntKind.i64) v3, AO.pv Ty.str v4, AO.pv Ty.str v5]), dd, AV.o (AO.pv (Ty.int IntKind.i64) v6), AV.o (AO.pv (Ty.int IntKind.i64) v7), AV.o (AO.pv (Ty.int IntKind.i64) v8), dd, dd, dd, dd, dd, dd, dd, dd, dd, dd, dd, dd, dd, dd, dd, dd, dd, dd, dd, dd, dd, dd, dd, dd, dd, dd, dd, dd, dd, dd, dd, dd, dd]
noncomputable def J14_11 (G : Gate) (call : CallF) (k m1 m2 n : Nat) (v0 v1 v2 v3 v4 v5 v6 v7 v8 : PV) : R := G 11 (regAt Tryd.prog call 14 [.b, .b, .a, .b, .blk, .lp m1, .b, .a, .blk, .b, .blk, .lp m2, .b, .a, .blk, .b, .blk, .lp n, .b, .b]) (SJ14_11 v0 v1 v2 v3 v4 v5 v6 v7 v8) (behind Tryd.prog H0 G call k 14 [.b, .b, .a, .b, .blk, .lp m1, .b, .a, .blk, .b, .blk, .lp m2, .b, .a, .blk, .b, .blk, .lp n, .b, .b] .normal)
def SJ14_12 (v0 v1 v2 v3 v4 v5 v6 v7 v8 : PV) : St := [AV.o (AO.pv Ty.str v0), dd, AV.o (AO.box 23 [AO.pv Ty.str v1, AO.pv (Ty.int IntKind.i64) v2, AO.pv (Ty.int IntKind.i64) v3, AO.pv Ty.str v4, AO.pv Ty.str v5]), dd, AV.o (AO.pv (Ty.int IntKind.i64) v6), AV.o (AO.pv (Ty.int IntKind.i64) v7), AV.o (AO.pv (Ty.int IntKind.i64) v8), dd, dd, dd, dd, dd, dd, dd, dd, dd, dd, dd, dd, dd, dd, dd, dd, dd, dd, dd, dd, dd, dd, dd, dd, dd, dd, dd, dd, dd, dd, dd, dd, dd]
noncomputable def J14_12 (G : Gate) (call : CallF) (k m1 m2 n : Nat) (v0 v1 v2 v3 v4 v5 v6 v7 v8 : PV) : R := G 12 (regAt Tryd.prog call 14 [.b, .b, .a, .b, .blk, .lp m1, .b, .a, .blk, .b, .blk, .lp m2, .b, .a, .blk, .b, .blk, .lp n, .b, .a, .blk, .a]) (SJ14_12 v0 v1 v2 v3 v4 v5 v6 v7 v8) (behind Tryd.prog H0 G call k 14 [.b, .b, .a, .b, .blk, .lp m1, .b, .a, .blk, .b, .blk, .lp m2, .b, .a, .blk, .b, .blk, .lp n, .b, .a, .blk, .a] .normal)
def SJ14_8 (v0 v1 v2 v3 v4 v5 v6 v7 : PV) : St := [AV.o (AO.pv Ty.str v0), dd, AV.o (AO.box 23 [AO.pv Ty.str v1, AO.pv (Ty.int IntKind.i64) v2, AO.pv (Ty.int IntKind.i64) v3, AO.pv Ty.str v4, AO.pv Ty.str v5]), dd, AV.o (AO.pv (Ty.int IntKind.i64) v6), AV.o (AO.pv (Ty.int IntKind.i64) v7), dd, dd, dd, dd, dd, dd, dd, dd, dd, dd, dd, dd, dd, dd, dd, dd, dd, dd, dd, dd, dd, dd, dd, dd, dd, dd, dd, dd, dd, dd, dd, dd, dd, dd]
noncomputable def J14_8 (G : Gate) (call : CallF) (k m1 n : Nat) (v0 v1 v2 v3 v4 v5 v6 v7 : PV) : R := G 8 (regAt Tryd.prog call 14 [.b, .b, .a, .b, .blk, .lp m1, .b, .a, .blk, .b, .blk, .lp n, .b, .b]) (SJ14_8 v0 v1 v2 v3 v4 v5 v6 v7) (behind Tryd.prog H0 G call k 14 [.b, .b, .a, .b, .blk, .lp m1, .b, .a, .blk, .b, .blk, .lp n, .b, .b] .normal)
def S14_10 (v0 v1 v2 v3 v4 v5 v6 v7 v8 : PV) : St := [AV.o (AO.pv Ty.str v0), dd, AV.o (AO.box 23 [AO.pv Ty.str v1, AO.pv (Ty.int IntKind.i64) v2, AO.pv (Ty.int IntKind.i64) v3, AO.pv Ty.str v4, AO.pv Ty.str v5]), dd, AV.o (AO.pv (Ty.int IntKind.i64) v6), AV.o (AO.pv (Ty.int IntKind.i64) v7), AV.o (AO.pv (Ty.int IntKind.i64) v8), dd, dd, dd, dd, dd, dd, dd, dd, dd, dd, dd, dd, dd, dd, dd, dd, dd, dd, dd, dd, dd, dd, dd, dd, dd, dd, dd, dd, dd, dd, dd, dd, dd]
noncomputable def L14_10 (G : Gate) (call : CallF) (k m1 m2 n : Nat) (v0 v1 v2 v3 v4 v5 v6 v7 v8 : PV) : R := loopAt Tryd.prog H0 G call k 14 [.b, .b, .a, .b, .blk, .lp m1, .b, .a, .blk, .b, .blk, .lp m2, .b, .a, .blk, .b, .blk] n (S14_10 v0 v1 v2 v3 v4 v5 v6 v7 v8) (behind Tryd.prog H0 G call k 14 [.b, .b, .a, .b, .blk, .lp m1, .b, .a, .blk, .b, .blk, .lp m2, .b, .a, .blk, .b, .blk])
def SJ14_9 (v0 v1 v2 v3 v4 v5 v6 v7 : PV) : St := [AV.o (AO.pv Ty.str v0), dd, AV.o (AO.box 23 [AO.pv Ty.str v1, AO.pv (Ty.int IntKind.i64) v2, AO.pv (Ty.int IntKind.i64) v3, AO.pv Ty.str v4, AO.pv Ty.str v5]), dd, AV.o (AO.pv (Ty.int IntKind.i64) v6), AV.o (AO.pv (Ty.int IntKind.i64) v7), dd, dd, dd, dd, dd, dd, dd, dd, dd, dd, dd, dd, dd, dd, dd, dd, dd, dd, dd, dd, dd, dd, dd, dd, dd, dd, dd, dd, dd, dd, dd, dd, dd, dd]
noncomputable def J14_9 (G : Gate) (call : CallF) (k m1 n : Nat) (v0 v1 v2 v3 v4 v5 v6 v7 : PV) : R := G 9 (regAt Tryd.prog call 14 [.b, .b, .a, .b, .blk, .lp m1, .b, .a, .blk, .b, .blk, .lp n, .b, .a, .blk, .a]) (SJ14_9 v0 v1 v2 v3 v4 v5 v6 v7) (behind Tryd.prog H0 G call k 14 [.b, .b, .a, .b, .blk, .lp m1, .b, .a, .blk, .b, .blk, .lp n, .b, .a, .blk, .a] .normal)
def SJ14_5 (v0 v1 v2 v3 v4 v5 v6 : PV) : St := [AV.o (AO.pv Ty.str v0), dd, AV.o (AO.box 23 [AO.pv Ty.str v1, AO.pv (Ty.int IntKind.i64) v2, AO.pv (Ty.int IntKind.i64) v3, AO.pv Ty.str v4, AO.pv Ty.str v5]), dd, AV.o (AO.pv (Ty.int IntKind.i64) v6), dd, dd, dd, dd, dd, dd, dd, dd, dd, dd, dd, dd, dd, dd, dd, dd, dd, dd, dd, dd, dd, dd, dd, dd, dd, dd, dd, dd, dd, dd, dd, dd, dd, dd, dd]
noncomputable def J14_5 (G : Gate) (call : CallF) (k n : Nat) (v0 v1 v2 v3 v4 v5 v6 : PV) : R := G 5 (regAt Tryd.prog call 14 [.b, .b, .a, .b, .blk, .lp n, .b, .b]) (SJ14_5 v0 v1 v2 v3 v4 v5 v6) (behind Tryd.prog H0 G call k 14 [.b, .b, .a, .b, .blk, .lp n, .b, .b] .normal)
def S14_7 (v0 v1 v2 v3 v4 v5 v6 v7 : PV) : St := [AV.o (AO.pv Ty.str v0), dd, AV.o (AO.box 23 [AO.pv Ty.str v1, AO.pv (Ty.int IntKind.i64) v2, AO.pv (Ty.int IntKind.i64) v3, AO.pv Ty.str v4, AO.pv Ty.str v5]), dd, AV.o (AO.pv (Ty.int IntKind.i64) v6), AV.o (AO.pv (Ty.int IntKind.i64) v7), dd, dd, dd, dd, dd, dd, dd, dd, dd, dd, dd, dd, dd, dd, dd, dd, dd, dd, dd, dd, dd, dd, dd, dd, dd, dd, dd, dd, dd, dd, dd, dd, dd, dd]
noncomputable def L14_7 (G : Gate) (call : CallF) (k m1 n : Nat) (v0 v1 v2 v3 v4 v5 v6 v7 : PV) : R := loopAt Tryd.prog H0 G call k 14 [.b, .b, .a, .b, .blk, .lp m1, .b, .a, .blk, .b, .blk] n (S14_7 v0 v1 v2 v3 v4 v5 v6 v7) (behind Tryd.prog H0 G call k 14 [.b, .b, .a, .b, .blk, .lp m1, .b, .a, .blk, .b, .blk])
def SJ14_6 (v0 v1 v2 v3 v4 v5 v6 : PV) : St := [AV.o (AO.pv Ty.str v0), dd, AV.o (AO.box 23 [AO.pv Ty.str v1, AO.pv (Ty.int IntKind.i64) v2, AO.pv (Ty.int IntKind.i64) v3, AO.pv Ty.str v4, AO.pv Ty.str v5]), dd, AV.o (AO.pv (Ty.int IntKind.i64) v6), dd, dd, dd, dd, dd, dd, dd, dd, dd, dd, dd, dd, dd, dd, dd, dd, dd, dd, dd, dd, dd, dd, dd, dd, dd, dd, dd, dd, dd, dd, dd, dd, dd, dd, dd]
noncomputable def J14_6 (G : Gate) (call : CallF) (k n : Nat) (v0 v1 v2 v3 v4 v5 v6 : PV) : R := G 6 (regAt Tryd.prog call 14 [.b, .b, .a, .b, .blk, .lp n, .b, .a, .blk, .a]) (SJ14_6 v0 v1 v2 v3 v4 v5 v6) (behind Tryd.prog H0 G call k 14 [.b, .b, .a, .b, .blk, .lp n, .b, .a, .blk, .a] .normal)
def SJ14_15 (v0 v1 v2 v3 v4 : PV) : St := [dd, dd, AV.o (AO.box 23 [AO.pv Ty.str v0, AO.pv (Ty.int IntKind.i64) v1, AO.pv (Ty.int IntKind.i64) v2, AO.pv Ty.str v3, AO.pv Ty.str v4]), dd, dd, dd, dd, dd, dd, dd, dd, dd, dd, dd, dd, dd, dd, dd, dd, dd, dd, dd, dd, dd, dd, dd, dd, dd, dd, dd, dd, dd, dd, dd, dd, dd, dd, dd, dd, dd]
noncomputable def J14_15 (G : Gate) (call : CallF) (k : Nat) (v0 v1 v2 v3 v4 : PV) : R := G 15 (regAt Tryd.prog call 14 [.b, .b, .b, .a]) (SJ14_15 v0 v1 v2 v3 v4) (behind Tryd.prog H0 G call k 14 [.b, .b, .b, .a] .normal)
def S14_4 (v0 v1 v2 v3 v4 v5 v6 : PV) : St := [AV.o (AO.pv Ty.str v0), dd, AV.o (AO.box 23 [AO.pv Ty.str v1, AO.pv (Ty.int IntKind.i64) v2, AO.pv (Ty.int IntKind.i64) v3, AO.pv Ty.str v4, AO.pv Ty.str v5]), dd, AV.o (AO.pv (Ty.int IntKind.i64) v6), dd, dd, dd, dd, dd, dd, dd, dd, dd, dd, dd, dd, dd, dd, dd, dd, dd, dd, dd, dd, dd, dd, dd, dd, dd, dd, dd, dd, dd, dd, dd, dd, dd, dd, dd]
noncomputable def L14_4 (G : Gate) (call : CallF) (k n : Nat) (v0 v1 v2 v3 v4 v5 v6 : PV) : R := loopAt Tryd.prog H0 G call k 14 [.b, .b, .a, .b, .blk] n (S14_4 v0 v1 v2 v3 v4 v5 v6) (behind Tryd.prog H0 G call k 14 [.b, .b, .a, .b, .blk])
def SJ14_3 (v0 v1 v2 v3 v4 v5 : PV) : St := [AV.o (AO.pv Ty.str v0), dd, AV.o (AO.box 23 [AO.pv Ty.str v1, AO.pv (Ty.int IntKind.i64) v2, AO.pv (Ty.int IntKind.i64) v3, AO.pv Ty.str v4, AO.pv Ty.str v5]), dd, dd, dd, dd, dd, dd, dd, dd, dd, dd, dd, dd, dd, dd, dd, dd, dd, dd, dd, dd, dd, dd, dd, dd, dd, dd, dd, dd, dd, dd, dd, dd, dd, dd, dd, dd, dd]
noncomputable def J14_3 (G : Gate) (call : CallF) (k : Nat) (v0 v1 v2 v3 v4 v5 : PV) : R := G 3 (regAt Tryd.prog call 14 [.b, .b, .a, .a]) (SJ14_3 v0 v1 v2 v3 v4 v5) (behind Tryd.prog H0 G call k 14 [.b, .b, .a, .a] .normal)
theorem J14_14_eq (call : CallF) (k m1 m2 n : Nat) (v0 v1 v2 v3 v4 v5 v6 v7 v8 v9 v10 v11 v12 v13 v14 : PV) : J14_14 gate1 call k m1 m2 n v0 v1 v2 v3 v4 v5 v6 v7 v8 v9 v10 v11 v12 v13 v14 =
  some ([AO.pv (Ty.st 23) (PV.agg [v9, v10, v11, v12, v13]), AO.pv (Ty.int IntKind.i64) (PV.int IntKind.i64 0)], []) := by rw [J14_14, gate1_app]; kernel_rfl
theorem J14_11_eq (call : CallF) (k m1 m2 n : Nat) (v0 v1 v2 v3 v4 v5 v6 v7 v8 : PV) : J14_11 gate1 call k m1 m2 n v0 v1 v2 v3 v4 v5 v6 v7 v8 =
  L14_10 gate1 call k m1 m2 n (v0) (v1) (v2) (v3) (v4) (v5) (v6) (v7) (PV.int IntKind.i64 (IntKind.i64.wrap (v8.toInt + 1))) := by rw [J14_11, gate1_app]; kernel_rfl
theorem J14_12_eq (call : CallF) (k m1 m2 n : Nat) (v0 v1 v2 v3 v4 v5 v6 v7 v8 : PV) : J14_12 gate1 call k m1 m2 n v0 v1 v2 v3 v4 v5 v6 v7 v8 =
  let c0 := call 31 [AO.pv (Ty.int IntKind.i64) v6, AO.pv (Ty.int IntKind.i64) v7, AO.pv (Ty.int IntKind.i64) v8]
  bif okRes (Ty.st 23) c0 then
    let c1 := call 17 [AO.pv (Ty.st 23) (PV.agg [(resPV c0).cell 0, (resPV c0).cell 1, (resPV c0).cell 2, (resPV c0).cell 3, (resPV c0).cell 4])]
    bif okRes Ty.bool c1 then
      bif (resPV c1).toBool then
        let c2 := call 16 [AO.pv (Ty.st 23) (PV.agg [(resPV c0).cell 0, (resPV c0).cell 1, (resPV c0).cell 2, (resPV c0).cell 3, (resPV c0).cell 4])]
        bif okRes Ty.str c2 then
          bif (resPV c2).toStr.data.toList == v0.toStr.data.toList then
            J14_14 gate1 call k m1 m2 n (v0) (v1) (v2) (v3) (v4) (v5) (v6) (v7) (v8) ((resPV c0).cell 0) ((resPV c0).cell 1) ((resPV c0).cell 2) ((resPV c0).cell 3) ((resPV c0).cell 4) (PV.bool true)
          else
            J14_11 gate1 call k m1 m2 n (v0) (v1) (v2) (v3) (v4) (v5) (v6) (v7) (v8)
        else
          none
      else
        J14_11 gate1 call k m1 m2 n (v0) (v1) (v2) (v3) (v4) (v5) (v6) (v7) (v8)
    else
      none
  else
    none := by rw [J14_12, gate1_app]; kernel_rfl
theorem J14_8_eq (call : CallF) (k m1 n : Nat) (v0 v1 v2 v3 v4 v5 v6 v7 : PV) : J14_8 gate1 call k m1 n v0 v1 v2 v3 v4 v5 v6 v7 =
  L14_7 gate1 call k m1 n (v0) (v1) (v2) (v3) (v4) (v5) (v6) (PV.int IntKind.i64 (IntKind.i64.wrap (v7.toInt + 1))) := by rw [J14_8, gate1_app]; kernel_rfl
theorem L14_10_succ (G : Gate) (call : CallF) (k m1 m2 n : Nat) (v0 v1 v2 v3 v4 v5 v6 v7 v8 : PV) : L14_10 G call k m1 m2 (n + 1) v0 v1 v2 v3 v4 v5 v6 v7 v8 =
  bif ltI (v8.toInt) (18) then
    J14_12 G call k m1 m2 n (v0) (v1) (v2) (v3) (v4) (v5) (v6) (v7) (v8)
  else
  J14_8 G call k m1 m2 (v0) (v1) (v2) (v3) (v4) (v5) (v6) (v7) := by kernel_rfl
theorem J14_9_eq (call : CallF) (k m1 n : Nat) (v0 v1 v2 v3 v4 v5 v6 v7 : PV) : J14_9 gate1 call k m1 n v0 v1 v2 v3 v4 v5 v6 v7 =
  L14_10 gate1 call k m1 n k (v0) (v1) (v2) (v3) (v4) (v5) (v6) (v7) (PV.int IntKind.i64 0) := by rw [J14_9, gate1_app]; kernel_rfl
theorem J14_5_eq (call : CallF) (k n : Nat) (v0 v1 v2 v3 v4 v5 v6 : PV) : J14_5 gate1 call k n v0 v1 v2 v3 v4 v5 v6 =
  L14_4 gate1 call k n (v0) (v1) (v2) (v3) (v4) (v5) (PV.int IntKind.i64 (IntKind.i64.wrap (v6.toInt + 1))) := by rw [J14_5, gate1_app]; kernel_rfl
theorem L14_7_succ (G : Gate) (call : CallF) (k m1 n : Nat) (v0 v1 v2 v3 v4 v5 v6 v7 : PV) : L14_7 G call k m1 (n + 1) v0 v1 v2 v3 v4 v5 v6 v7 =
  bif leI (IntKind.i64.wrap (v6.toInt + v7.toInt)) (30) then
    J14_9 G call k m1 n (v0) (v1) (v2) (v3) (v4) (v5) (v6) (v7)
  else
  J14_5 G call k m1 (v0) (v1) (v2) (v3) (v4) (v5) (v6) := by kernel_rfl
theorem J14_6_eq (call : CallF) (k n : Nat) (v0 v1 v2 v3 v4 v5 v6 : PV) : J14_6 gate1 call k n v0 v1 v2 v3 v4 v5 v6 =
  L14_7 gate1 call k n k (v0) (v1) (v2) (v3) (v4) (v5) (v6) (PV.int IntKind.i64 0) := by rw [J14_6, gate1_app]; kernel_rfl
theorem J14_15_eq (call : CallF) (k : Nat) (v0 v1 v2 v3 v4 : PV) : J14_15 gate1 call k v0 v1 v2 v3 v4 =
  some ([AO.pv (Ty.st 23) (PV.agg [PV.str (ByteArray.mk #[]), PV.int IntKind.i64 0, PV.int IntKind.i64 0, PV.str (ByteArray.mk #[]), PV.str (ByteArray.mk #[])]), AO.pv (Ty.int IntKind.i64) (PV.int IntKind.i64 3)], []) := by rw [J14_15, gate1_app]; kernel_rfl
theorem L14_4_succ (G : Gate) (call : CallF) (k n : Nat) (v0 v1 v2 v3 v4 v5 v6 : PV) : L14_4 G call k (n + 1) v0 v1 v2 v3 v4 v5 v6 =
  bif leI (v6.toInt) (30) then
    J14_6 G call k n (v0) (v1) (v2) (v3) (v4) (v5) (v6)
  else
  J14_15 G call k (v1) (v2) (v3) (v4) (v5) := by kernel_rfl
theorem J14_3_eq (call : CallF) (k : Nat) (v0 v1 v2 v3 v4 v5 : PV) : J14_3 gate1 call k v0 v1 v2 v3 v4 v5 =
  L14_4 gate1 call k k (v0) (v1) (v2) (v3) (v4) (v5) (PV.int IntKind.i64 0) := by rw [J14_3, gate1_app]; kernel_rfl
theorem R14 (call : CallF) (k : Nat) (x0 : PV) : evStep Tryd.prog H0 call k 14 [AO.pv Ty.str x0] =
  bif ltI (30) ((Nat.cast x0.toStr.size : Int)) then
    some ([AO.pv (Ty.st 23) (PV.agg [PV.str (ByteArray.mk #[]), PV.int IntKind.i64 0, PV.int IntKind.i64 0, PV.str (ByteArray.mk #[]), PV.str (ByteArray.mk #[])]), AO.pv (Ty.int IntKind.i64) (PV.int IntKind.i64 3)], [])
  else
    J14_3 gate1 call k (x0) (PV.str (ByteArray.mk #[])) (PV.int IntKind.i64 0) (PV.int IntKind.i64 0) (PV.str (ByteArray.mk #[])) (PV.str (ByteArray.mk #[])) := by rw [evStep_eq]; kernel_rfl
def SJ15_3 (v0 v1 v2 v3 v4 : PV) : St := [dd, AV.o (AO.box 23 [AO.pv Ty.str v0, AO.pv (Ty.int IntKind.i64) v1, AO.pv (Ty.int IntKind.i64) v2, AO.pv Ty.str v3, AO.pv Ty.str v4]), dd, dd, dd, dd, dd, dd, dd, dd, dd, dd, dd, dd, dd, dd, dd, dd, dd, dd, dd, dd, dd, dd, dd, dd, dd]
noncomputable def J15_3 (G : Gate) (call : CallF) (k : Nat) (v0 v1 v2 v3 v4 : PV) : R := G 3 (regAt Tryd.prog call 15 [.b, .b, .a]) (SJ15_3 v0 v1 v2 v3 v4) (behind Tryd.prog H0 G call k 15 [.b, .b, .a] .normal)
theorem J15_3_eq (call : CallF) (k : Nat) (v0 v1 v2 v3 v4 : PV) : J15_3 gate1 call k v0 v1 v2 v3 v4 =
  bif leN (v0.toStr.size + 1) (9223372036854775807) then
    let c1 := call 32 [AO.pv (Ty.int IntKind.i64) v1]
    bif okRes Ty.str c1 then
      bif leN ((v0.toStr ++ (ByteArray.mk #[40])).size + (resPV c1).toStr.size) (9223372036854775807) then
        bif leN ((v0.toStr ++ (ByteArray.mk #[40]) ++ (resPV c1).toStr).size + 1) (9223372036854775807) then
          let c2 := call 32 [AO.pv (Ty.int IntKind.i64) v2]
          bif okRes Ty.str c2 then
            bif leN ((v0.toStr ++ (ByteArray.mk #[40]) ++ (resPV c1).toStr ++ (ByteArray.mk #[44])).size + (resPV c2).toStr.size) (9223372036854775807) then
              bif leN ((v0.toStr ++ (ByteArray.mk #[40]) ++ (resPV c1).toStr ++ (ByteArray.mk #[44]) ++ (resPV c2).toStr).size + 1) (9223372036854775807) then
                bif leN ((v0.toStr ++ (ByteArray.mk #[40]) ++ (resPV c1).toStr ++ (ByteArray.mk #[44]) ++ (resPV c2).toStr ++ (ByteArray.mk #[44])).size + v3.toStr.size) (9223372036854775807) then
                  bif leN ((v0.toStr ++ (ByteArray.mk #[40]) ++ (resPV c1).toStr ++ (ByteArray.mk #[44]) ++ (resPV c2).toStr ++ (ByteArray.mk #[44]) ++ v3.toStr).size + 1) (9223372036854775807) then
                    bif leN ((v0.toStr ++ (ByteArray.mk #[40]) ++ (resPV c1).toStr ++ (ByteArray.mk #[44]) ++ (resPV c2).toStr ++ (ByteArray.mk #[44]) ++ v3.toStr ++ (ByteArray.mk #[44])).size + v4.toStr.size) (9223372036854775807) then
                      bif leN ((v0.toStr ++ (ByteArray.mk #[40]) ++ (resPV c1).toStr ++ (ByteArray.mk #[44]) ++ (resPV c2).toStr ++ (ByteArray.mk #[44]) ++ v3.toStr ++ (ByteArray.mk #[44]) ++ v4.toStr).size + 1) (9223372036854775807) then
                        some ([AO.pv Ty.str (PV.str (v0.toStr ++ (ByteArray.mk #[40]) ++ (resPV c1).toStr ++ (ByteArray.mk #[44]) ++ (resPV c2).toStr ++ (ByteArray.mk #[44]) ++ v3.toStr ++ (ByteArray.mk #[44]) ++ v4.toStr ++ (ByteArray.mk #[41])))], [])
                      else
                        none
                    else
                      none
                  else
                    none
                else
                  none
              else
                none
            else
              none
          else
            none
        else
          none
      else
        none
    else
      none
  else
    none := by rw [J15_3, gate1_app]; kernel_rfl
theorem R15 (call : CallF) (k : Nat) (x0 : PV) : evStep Tryd.prog H0 call k 15 [AO.pv (Ty.st 23) x0] =
  let c0 := call 5 [AO.pv (Ty.st 23) (PV.agg [x0.cell 0, x0.cell 1, x0.cell 2, x0.cell 3, x0.cell 4])]
  bif okRes Ty.bool c0 then
    bif !(resPV c0).toBool then
      some ([AO.pv Ty.str (PV.str (ByteArray.mk #[]))], [])
    else
      J15_3 gate1 call k (x0.cell 0) (x0.cell 1) (x0.cell 2) (x0.cell 3) (x0.cell 4)
  else
    none := by rw [evStep_eq]; kernel_rfl
def SJ16_3 (v0 v1 v2 v3 v4 : PV) : St := [dd, AV.o (AO.box 23 [AO.pv Ty.str v0, AO.pv (Ty.int IntKind.i64) v1, AO.pv (Ty.int IntKind.i64) v2, AO.pv Ty.str v3, AO.pv Ty.str v4]), dd, dd, dd, dd, dd, dd, dd, dd, dd, dd, dd, dd, dd, dd, dd, dd, dd, dd, dd, dd, dd, dd, dd, dd, dd]
noncomputable def J16_3 (G : Gate) (call : CallF) (k : Nat) (v0 v1 v2 v3 v4 : PV) : R := G 3 (regAt Tryd.prog call 16 [.b, .b, .a]) (SJ16_3 v0 v1 v2 v3 v4) (behind Tryd.prog H0 G call k 16 [.b, .b, .a] .normal)
theorem J16_3_eq (call : CallF) (k : Nat) (v0 v1 v2 v3 v4 : PV) : J16_3 gate1 call k v0 v1 v2 v3 v4 =
  bif leN (v0.toStr.size + 1) (9223372036854775807) then
    let c1 := call 32 [AO.pv (Ty.int IntKind.i64) v1]
    bif okRes Ty.str c1 then
      bif leN ((v0.toStr ++ (ByteArray.mk #[40])).size + (resPV c1).toStr.size) (9223372036854775807) then
        bif leN ((v0.toStr ++ (ByteArray.mk #[40]) ++ (resPV c1).toStr).size + 1) (9223372036854775807) then
          let c2 := call 32 [AO.pv (Ty.int IntKind.i64) v2]
          bif okRes Ty.str c2 then
            bif leN ((v0.toStr ++ (ByteArray.mk #[40]) ++ (resPV c1).toStr ++ (ByteArray.mk #[44])).size + (resPV c2).toStr.size) (9223372036854775807) then
              bif leN ((v0.toStr ++ (ByteArray.mk #[40]) ++ (resPV c1).toStr ++ (ByteArray.mk #[44]) ++ (resPV c2).toStr).size + 1) (9223372036854775807) then
                bif leN ((v0.toStr ++ (ByteArray.mk #[40]) ++ (resPV c1).toStr ++ (ByteArray.mk #[44]) ++ (resPV c2).toStr ++ (ByteArray.mk #[44])).size + v3.toStr.size) (9223372036854775807) then
                  bif leN ((v0.toStr ++ (ByteArray.mk #[40]) ++ (resPV c1).toStr ++ (ByteArray.mk #[44]) ++ (resPV c2).toStr ++ (ByteArray.mk #[44]) ++ v3.toStr).size + 1) (9223372036854775807) then
                    bif leN ((v0.toStr ++ (ByteArray.mk #[40]) ++ (resPV c1).toStr ++ (ByteArray.mk #[44]) ++ (resPV c2).toStr ++ (ByteArray.mk #[44]) ++ v3.toStr ++ (ByteArray.mk #[44])).size + v4.toStr.size) (9223372036854775807) then
                      bif leN ((v0.toStr ++ (ByteArray.mk #[40]) ++ (resPV c1).toStr ++ (ByteArray.mk #[44]) ++ (resPV c2).toStr ++ (ByteArray.mk #[44]) ++ v3.toStr ++ (ByteArray.mk #[44]) ++ v4.toStr).size + 1) (9223372036854775807) then
                        some ([AO.pv Ty.str (PV.str (v0.toStr ++ (ByteArray.mk #[40]) ++ (resPV c1).toStr ++ (ByteArray.mk #[44]) ++ (resPV c2).toStr ++ (ByteArray.mk #[44]) ++ v3.toStr ++ (ByteArray.mk #[44]) ++ v4.toStr ++ (ByteArray.mk #[41])))], [])
                      else
                        none
                    else
                      none
                  else
                    none
                else
                  none
              else
                none
            else
              none
          else
            none
        else
          none
      else
        none
    else
      none
  else
    none := by rw [J16_3, gate1_app]; kernel_rfl
theorem R16 (call : CallF) (k : Nat) (x0 : PV) : evStep Tryd.prog H0 call k 16 [AO.pv (Ty.st 23) x0] =
  let c0 := call 17 [AO.pv (Ty.st 23) (PV.agg [x0.cell 0, x0.cell 1, x0.cell 2, x0.cell 3, x0.cell 4])]
  bif okRes Ty.bool c0 then
    bif !(resPV c0).toBool then
      some ([AO.pv Ty.str (PV.str (ByteArray.mk #[]))], [])
    else
      J16_3 gate1 call k (x0.cell 0) (x0.cell 1) (x0.cell 2) (x0.cell 3) (x0.cell 4)
  else
    none := by rw [evStep_eq]; kernel_rfl
def SJ17_2 (v0 v1 v2 v3 v4 v5 : PV) : St := [dd, AV.o (AO.box 23 [AO.pv Ty.str v0, AO.pv (Ty.int IntKind.i64) v1, AO.pv (Ty.int IntKind.i64) v2, AO.pv Ty.str v3, AO.pv Ty.str v4]), dd, dd, dd, dd, dd, dd, dd, dd, dd, dd, dd, dd, dd, dd, dd, AV.o (AO.pv Ty.bool v5), dd, dd, dd, dd, dd, dd, dd, dd, dd, dd, dd, dd, dd, dd, dd, dd, dd, dd, dd, dd, dd, dd, dd, dd, dd, dd, dd, dd, dd, dd, dd, dd, dd, dd, dd, dd, dd, dd, dd, dd, dd, dd, dd, dd, dd, dd, dd, dd, dd, dd, dd, dd, dd, dd, dd, dd, dd, dd, dd, dd, dd, dd, dd, dd, dd, dd, dd, dd, dd, dd, dd, dd, dd, dd, dd, dd, dd, dd, dd, dd, dd, dd, dd, dd, dd, dd, dd]
noncomputable def J17_2 (G : Gate) (call : CallF) (k : Nat) (v0 v1 v2 v3 v4 v5 : PV) : R := G 2 (regAt Tryd.prog call 17 [.b, .a, .b, .x, .a]) (SJ17_2 v0 v1 v2 v3 v4 v5) (behind Tryd.prog H0 G call k 17 [.b, .a, .b, .x, .a] .normal)
def SJ17_5 (v0 v1 v2 v3 v4 v5 v6 : PV) : St := [dd, AV.o (AO.box 23 [AO.pv Ty.str v0, AO.pv (Ty.int IntKind.i64) v1, AO.pv (Ty.int IntKind.i64) v2, AO.pv Ty.str v3, AO.pv Ty.str v4]), dd, AV.o (AO.pv Ty.bool v5), dd, dd, dd, dd, dd, dd, dd, dd, dd, dd, dd, dd, dd, dd, dd, dd, dd, dd, dd, dd, dd, dd, dd, dd, dd, dd, dd, dd, dd, AV.o (AO.pv Ty.bool v6), dd, dd, dd, dd, dd, dd, dd, dd, dd, dd, dd, dd, dd, dd, dd, dd, dd, dd, dd, dd, dd, dd, dd, dd, dd, dd, dd, dd, dd, dd, dd, dd, dd, dd, dd, dd, dd, dd, dd, dd, dd, dd, dd, dd, dd, dd, dd, dd, dd, dd, dd, dd, dd, dd, dd, dd, dd, dd, dd, dd, dd, dd, dd, dd, dd, dd, dd, dd, dd, dd, dd]
noncomputable def J17_5 (G : Gate) (call : CallF) (k : Nat) (v0 v1 v2 v3 v4 v5 v6 : PV) : R := G 5 (regAt Tryd.prog call 17 [.b, .b, .a, .b, .x, .b, .a]) (SJ17_5 v0 v1 v2 v3 v4 v5 v6) (behind Tryd.prog H0 G call k 17 [.b, .b, .a, .b, .x, .b, .a] .normal)
def SJ17_7 (v0 v1 v2 v3 v4 v5 v6 : PV) : St := [dd, AV.o (AO.box 23 [AO.pv Ty.str v0, AO.pv (Ty.int IntKind.i64) v1, AO.pv (Ty.int IntKind.i64) v2, AO.pv Ty.str v3, AO.pv Ty.str v4]), dd, dd, AV.o (AO.pv Ty.bool v5), dd, dd, dd, dd, dd, dd, dd, dd, dd, dd, dd, dd, dd, dd, dd, dd, dd, dd, dd, dd, dd, dd, dd, dd, dd, dd, dd, dd, dd, dd, dd, dd, dd, dd, dd, dd, dd, dd, dd, dd, dd, dd, dd, dd, dd, dd, dd, dd, dd, dd, dd, dd, dd, dd, dd, dd, dd, dd, dd, dd, dd, dd, dd, dd, dd, AV.o (AO.pv Ty.bool v6), dd, dd, dd, dd, dd, dd, dd, dd, dd, dd, dd, dd, dd, dd, dd, dd, dd, dd, dd, dd, dd, dd, dd, dd, dd, dd, dd, dd, dd, dd, dd, dd, dd, dd]
noncomputable def J17_7 (G : Gate) (call : CallF) (k : Nat) (v0 v1 v2 v3 v4 v5 v6 : PV) : R := G 7 (regAt Tryd.prog call 17 [.b, .b, .b, .b, .a]) (SJ17_7 v0 v1 v2 v3 v4 v5 v6) (behind Tryd.prog H0 G call k 17 [.b, .b, .b, .b, .a] .normal)
def SJ17_6 (v0 v1 v2 v3 v4 : PV) : St := [dd, AV.o (AO.box 23 [AO.pv Ty.str v0, AO.pv (Ty.int IntKind.i64) v1, AO.pv (Ty.int IntKind.i64) v2, AO.pv Ty.str v3, AO.pv Ty.str v4]), dd, dd, dd, dd, dd, dd, dd, dd, dd, dd, dd, dd, dd, dd, dd, dd, dd, dd, dd, dd, dd, dd, dd, dd, dd, dd, dd, dd, dd, dd, dd, dd, dd, dd, dd, dd, dd, dd, dd, dd, dd, dd, dd, dd, dd, dd, dd, dd, dd, dd, dd, dd, dd, dd, dd, dd, dd, dd, dd, dd, dd, dd, dd, dd, dd, dd, dd, dd, dd, dd, dd, dd, dd, dd, dd, dd, dd, dd, dd, dd, dd, dd, dd, dd, dd, dd, dd, dd, dd, dd, dd, dd, dd, dd, dd, dd, dd, dd, dd, dd, dd, dd, dd]
noncomputable def J17_6 (G : Gate) (call : CallF) (k : Nat) (v0 v1 v2 v3 v4 : PV) : R := G 6 (regAt Tryd.prog call 17 [.b, .b, .b, .a]) (SJ17_6 v0 v1 v2 v3 v4) (behind Tryd.prog H0 G call k 17 [.b, .b, .b, .a] .normal)
def SJ17_3 (v0 v1 v2 v3 v4 : PV) : St := [dd, AV.o (AO.box 23 [AO.pv Ty.str v0, AO.pv (Ty.int IntKind.i64) v1, AO.pv (Ty.int IntKind.i64) v2, AO.pv Ty.str v3, AO.pv Ty.str v4]), dd, dd, dd, dd, dd, dd, dd, dd, dd, dd, dd, dd, dd, dd, dd, dd, dd, dd, dd, dd, dd, dd, dd, dd, dd, dd, dd, dd, dd, dd, dd, dd, dd, dd, dd, dd, dd, dd, dd, dd, dd, dd, dd, dd, dd, dd, dd, dd, dd, dd, dd, dd, dd, dd, dd, dd, dd, dd, dd, dd, dd, dd, dd, dd, dd, dd, dd, dd, dd, dd, dd, dd, dd, dd, dd, dd, dd, dd, dd, dd, dd, dd, dd, dd, dd, dd, dd, dd, dd, dd, dd, dd, dd, dd, dd, dd, dd, dd, dd, dd, dd, dd, dd]
noncomputable def J17_3 (G : Gate) (call : CallF) (k : Nat) (v0 v1 v2 v3 v4 : PV) : R := G 3 (regAt Tryd.prog call 17 [.b, .b, .a, .a]) (SJ17_3 v0 v1 v2 v3 v4) (behind Tryd.prog H0 G call k 17 [.b, .b, .a, .a] .normal)
theorem J17_2_eq (call : CallF) (k : Nat) (v0 v1 v2 v3 v4 v5 : PV) : J17_2 gate1 call k v0 v1 v2 v3 v4 v5 =
  some ([AO.pv Ty.bool (PV.bool false)], []) := by rw [J17_2, gate1_app]; kernel_rfl
theorem J17_5_eq (call : CallF) (k : Nat) (v0 v1 v2 v3 v4 v5 v6 : PV) : J17_5 gate1 call k v0 v1 v2 v3 v4 v5 v6 =
  bif v5.toBool then
    bif leI (0) (v1.toInt) then
      bif leI (v1.toInt) (30) then
        bif leI (0) (v2.toInt) then
          bif leI (v2.toInt) (30) then
            some ([AO.pv Ty.bool (PV.bool (leI (IntKind.i64.wrap (v1.toInt + v2.toInt)) (30)))], [])
          else
            some ([AO.pv Ty.bool (PV.bool false)], [])
        else
          some ([AO.pv Ty.bool (PV.bool false)], [])
      else
        some ([AO.pv Ty.bool (PV.bool false)], [])
    else
      some ([AO.pv Ty.bool (PV.bool false)], [])
  else
    some ([AO.pv Ty.bool (PV.bool false)], []) := by rw [J17_5, gate1_app]; kernel_rfl
theorem J17_7_eq (call : CallF) (k : Nat) (v0 v1 v2 v3 v4 v5 v6 : PV) : J17_7 gate1 call k v0 v1 v2 v3 v4 v5 v6 =
  bif v0.toStr.data.toList == (ByteArray.mk #[102, 108, 111, 97, 116]).data.toList then
    bif v5.toBool then
      bif leI (1) (v1.toInt) then
        bif leI (v1.toInt) (24) then
          bif leI (0) (v2.toInt) then
            bif leI (v2.toInt) (20) then
              some ([AO.pv Ty.bool (PV.bool (leI (IntKind.i64.wrap (v1.toInt + v2.toInt)) (30)))], [])
            else
              some ([AO.pv Ty.bool (PV.bool false)], [])
          else
            some ([AO.pv Ty.bool (PV.bool false)], [])
        else
          some ([AO.pv Ty.bool (PV.bool false)], [])
      else
        some ([AO.pv Ty.bool (PV.bool false)], [])
    else
      some ([AO.pv Ty.bool (PV.bool false)], [])
  else
    some ([AO.pv Ty.bool (PV.bool false)], []) := by rw [J17_7, gate1_app]; kernel_rfl
theorem J17_6_eq (call : CallF) (k : Nat) (v0 v1 v2 v3 v4 : PV) : J17_6 gate1 call k v0 v1 v2 v3 v4 =
  bif v4.toStr.data.toList == (ByteArray.mk #[115, 97, 116]).data.toList then
    J17_7 gate1 call k (v0) (v1) (v2) (v3) (v4) (PV.bool true) (PV.bool true)
  else
    J17_7 gate1 call k (v0) (v1) (v2) (v3) (v4) (PV.bool (v4.toStr.data.toList == (ByteArray.mk #[110, 111, 110, 101]).data.toList)) (PV.bool (v4.toStr.data.toList == (ByteArray.mk #[110, 111, 110, 101]).data.toList)) := by rw [J17_6, gate1_app]; kernel_rfl
theorem J17_3_eq (call : CallF) (k : Nat) (v0 v1 v2 v3 v4 : PV) : J17_3 gate1 call k v0 v1 v2 v3 v4 =
  bif v0.toStr.data.toList == (ByteArray.mk #[102, 105, 120]).data.toList then
    bif v4.toStr.data.toList == (ByteArray.mk #[115, 97, 116]).data.toList then
      J17_5 gate1 call k (v0) (v1) (v2) (v3) (v4) (PV.bool true) (PV.bool true)
    else
      bif v4.toStr.data.toList == (ByteArray.mk #[119, 114, 97, 112]).data.toList then
        J17_5 gate1 call k (v0) (v1) (v2) (v3) (v4) (PV.bool true) (PV.bool true)
      else
        J17_5 gate1 call k (v0) (v1) (v2) (v3) (v4) (PV.bool (v4.toStr.data.toList == (ByteArray.mk #[110, 111, 110, 101]).data.toList)) (PV.bool (v4.toStr.data.toList == (ByteArray.mk #[110, 111, 110, 101]).data.toList))
  else
    J17_6 gate1 call k (v0) (v1) (v2) (v3) (v4) := by rw [J17_3, gate1_app]; kernel_rfl
theorem R17 (call : CallF) (k : Nat) (x0 : PV) : evStep Tryd.prog H0 call k 17 [AO.pv (Ty.st 23) x0] =
  bif !(x0.cell 3).toStr.data.toList == (ByteArray.mk #[102, 108, 111, 111, 114]).data.toList then
    bif !(x0.cell 3).toStr.data.toList == (ByteArray.mk #[110, 101, 97, 114]).data.toList then
      bif !(x0.cell 3).toStr.data.toList == (ByteArray.mk #[122, 101, 114, 111]).data.toList then
        J17_2 gate1 call k (x0.cell 0) (x0.cell 1) (x0.cell 2) (x0.cell 3) (x0.cell 4) (PV.bool true)
      else
        J17_3 gate1 call k (x0.cell 0) (x0.cell 1) (x0.cell 2) (x0.cell 3) (x0.cell 4)
    else
      J17_3 gate1 call k (x0.cell 0) (x0.cell 1) (x0.cell 2) (x0.cell 3) (x0.cell 4)
  else
    J17_3 gate1 call k (x0.cell 0) (x0.cell 1) (x0.cell 2) (x0.cell 3) (x0.cell 4) := by rw [evStep_eq]; kernel_rfl
def SJ31_14 (v0 v1 v2 v3 v4 v5 v6 v7 v8 v9 : PV) : St := [dd, dd, dd, dd, dd, dd, AV.o (AO.box 23 [AO.pv Ty.str v0, AO.pv (Ty.int IntKind.i64) v1, AO.pv (Ty.int IntKind.i64) v2, AO.pv Ty.str v3, AO.pv Ty.str v4]), AV.o (AO.box 23 [AO.pv Ty.str v5, AO.pv (Ty.int IntKind.i64) v6, AO.pv (Ty.int IntKind.i64) v7, AO.pv Ty.str v8, AO.pv Ty.str v9]), dd, dd, dd, dd, dd, dd, dd, dd, dd, dd, dd, dd, dd, dd, dd, dd, dd, dd, dd, dd, dd, dd, dd, dd, dd]
noncomputable def J31_14 (G : Gate) (call : CallF) (k : Nat) (v0 v1 v2 v3 v4 v5 v6 v7 v8 v9 : PV) : R := G 14 (regAt Tryd.prog call 31 [.b, .b, .b, .b, .b, .a]) (SJ31_14 v0 v1 v2 v3 v4 v5 v6 v7 v8 v9) (behind Tryd.prog H0 G call k 31 [.b, .b, .b, .b, .b, .a] .normal)
def SJ31_9 (v0 v1 v2 v3 v4 v5 v6 v7 v8 v9 v10 : PV) : St := [dd, dd, AV.o (AO.pv (Ty.int IntKind.i64) v0), dd, dd, dd, AV.o (AO.box 23 [AO.pv Ty.str v1, AO.pv (Ty.int IntKind.i64) v2, AO.pv (Ty.int IntKind.i64) v3, AO.pv Ty.str v4, AO.pv Ty.str v5]), AV.o (AO.box 23 [AO.pv Ty.str v6, AO.pv (Ty.int IntKind.i64) v7, AO.pv (Ty.int IntKind.i64) v8, AO.pv Ty.str v9, AO.pv Ty.str v10]), dd, dd, dd, dd, dd, dd, dd, dd, dd, dd, dd, dd, dd, dd, dd, dd, dd, dd, dd, dd, dd, dd, dd, dd, dd]
noncomputable def J31_9 (G : Gate) (call : CallF) (k : Nat) (v0 v1 v2 v3 v4 v5 v6 v7 v8 v9 v10 : PV) : R := G 9 (regAt Tryd.prog call 31 [.b, .b, .b, .b, .a, .a]) (SJ31_9 v0 v1 v2 v3 v4 v5 v6 v7 v8 v9 v10) (behind Tryd.prog H0 G call k 31 [.b, .b, .b, .b, .a, .a] .normal)
def SJ31_4 (v0 v1 v2 v3 v4 v5 v6 v7 v8 v9 v10 : PV) : St := [dd, dd, AV.o (AO.pv (Ty.int IntKind.i64) v0), dd, dd, dd, AV.o (AO.box 23 [AO.pv Ty.str v1, AO.pv (Ty.int IntKind.i64) v2, AO.pv (Ty.int IntKind.i64) v3, AO.pv Ty.str v4, AO.pv Ty.str v5]), AV.o (AO.box 23 [AO.pv Ty.str v6, AO.pv (Ty.int IntKind.i64) v7, AO.pv (Ty.int IntKind.i64) v8, AO.pv Ty.str v9, AO.pv Ty.str v10]), dd, dd, dd, dd, dd, dd, dd, dd, dd, dd, dd, dd, dd, dd, dd, dd, dd, dd, dd, dd, dd, dd, dd, dd, dd]
noncomputable def J31_4 (G : Gate) (call : CallF) (k : Nat) (v0 v1 v2 v3 v4 v5 v6 v7 v8 v9 v10 : PV) : R := G 4 (regAt Tryd.prog call 31 [.b, .b, .b, .a, .a]) (SJ31_4 v0 v1 v2 v3 v4 v5 v6 v7 v8 v9 v10) (behind Tryd.prog H0 G call k 31 [.b, .b, .b, .a, .a] .normal)
theorem J31_14_eq (call : CallF) (k : Nat) (v0 v1 v2 v3 v4 v5 v6 v7 v8 v9 : PV) : J31_14 gate1 call k v0 v1 v2 v3 v4 v5 v6 v7 v8 v9 =
  some ([AO.pv (Ty.st 23) (PV.agg [v5, v6, v7, v8, v9])], []) := by rw [J31_14, gate1_app]; kernel_rfl
theorem J31_9_eq (call : CallF) (k : Nat) (v0 v1 v2 v3 v4 v5 v6 v7 v8 v9 v10 : PV) : J31_9 gate1 call k v0 v1 v2 v3 v4 v5 v6 v7 v8 v9 v10 =
  bif eqI (IntKind.i64.wrap (v0.toInt.tdiv 6)) (1) then
    J31_14 gate1 call k (v1) (v2) (v3) (v4) (v5) (v6) (v7) (v8) (v9) (PV.str (ByteArray.mk #[119, 114, 97, 112]))
  else
    bif eqI (IntKind.i64.wrap (v0.toInt.tdiv 6)) (2) then
      J31_14 gate1 call k (v1) (v2) (v3) (v4) (v5) (v6) (v7) (v8) (v9) (PV.str (ByteArray.mk #[110, 111, 110, 101]))
    else
      J31_14 gate1 call k (v1) (v2) (v3) (v4) (v5) (v6) (v7) (v8) (v9) (v10) := by rw [J31_9, gate1_app]; kernel_rfl
theorem J31_4_eq (call : CallF) (k : Nat) (v0 v1 v2 v3 v4 v5 v6 v7 v8 v9 v10 : PV) : J31_4 gate1 call k v0 v1 v2 v3 v4 v5 v6 v7 v8 v9 v10 =
  bif eqI ((IntKind.i64.wrap (v0.toInt.tdiv 2)).tmod 3) (1) then
    J31_9 gate1 call k (v0) (v1) (v2) (v3) (v4) (v5) (v6) (v7) (v8) (PV.str (ByteArray.mk #[110, 101, 97, 114])) (v10)
  else
    bif eqI ((IntKind.i64.wrap (v0.toInt.tdiv 2)).tmod 3) (2) then
      J31_9 gate1 call k (v0) (v1) (v2) (v3) (v4) (v5) (v6) (v7) (v8) (PV.str (ByteArray.mk #[122, 101, 114, 111])) (v10)
    else
      J31_9 gate1 call k (v0) (v1) (v2) (v3) (v4) (v5) (v6) (v7) (v8) (v9) (v10) := by rw [J31_4, gate1_app]; kernel_rfl
theorem R31 (call : CallF) (k : Nat) (x0 x1 x2 : PV) : evStep Tryd.prog H0 call k 31 [AO.pv (Ty.int IntKind.i64) x0, AO.pv (Ty.int IntKind.i64) x1, AO.pv (Ty.int IntKind.i64) x2] =
  bif eqI (x2.toInt.tmod 2) (1) then
    J31_4 gate1 call k (x2) (PV.str (ByteArray.mk #[])) (PV.int IntKind.i64 0) (PV.int IntKind.i64 0) (PV.str (ByteArray.mk #[])) (PV.str (ByteArray.mk #[])) (PV.str (ByteArray.mk #[102, 108, 111, 97, 116])) (x0) (x1) (PV.str (ByteArray.mk #[102, 108, 111, 111, 114])) (PV.str (ByteArray.mk #[115, 97, 116]))
  else
    J31_4 gate1 call k (x2) (PV.str (ByteArray.mk #[])) (PV.int IntKind.i64 0) (PV.int IntKind.i64 0) (PV.str (ByteArray.mk #[])) (PV.str (ByteArray.mk #[])) (PV.str (ByteArray.mk #[102, 105, 120])) (x0) (x1) (PV.str (ByteArray.mk #[102, 108, 111, 111, 114])) (PV.str (ByteArray.mk #[115, 97, 116])) := by rw [evStep_eq]; kernel_rfl
def SJ4_5 (v0 v1 v2 v3 v4 v5 v6 v7 : PV) : St := [dd, dd, dd, AV.o (AO.box 23 [AO.pv Ty.str v0, AO.pv (Ty.int IntKind.i64) v1, AO.pv (Ty.int IntKind.i64) v2, AO.pv Ty.str v3, AO.pv Ty.str v4]), dd, dd, dd, dd, dd, AV.o (AO.pv Ty.str v5), dd, dd, dd, dd, dd, dd, dd, dd, dd, dd, dd, dd, dd, AV.o (AO.pv Ty.str v6), dd, dd, dd, dd, dd, dd, dd, dd, dd, dd, dd, dd, dd, AV.o (AO.pv Ty.bool v7), dd, dd, dd, dd, dd, dd, dd, dd, dd, dd, dd, dd, dd, dd, dd, dd, dd, dd, dd, dd, dd, dd, dd, dd, dd, dd, dd]
noncomputable def J4_5 (G : Gate) (call : CallF) (k : Nat) (v0 v1 v2 v3 v4 v5 v6 v7 : PV) : R := G 5 (regAt Tryd.prog call 4 [.b, .b, .b, .b, .a, .b, .x, .a]) (SJ4_5 v0 v1 v2 v3 v4 v5 v6 v7) (behind Tryd.prog H0 G call k 4 [.b, .b, .b, .b, .a, .b, .x, .a] .normal)
def SJ4_9 (v0 v1 v2 v3 v4 v5 v6 v7 v8 v9 v10 v11 : PV) : St := [dd, dd, dd, AV.o (AO.box 23 [AO.pv Ty.str v0, AO.pv (Ty.int IntKind.i64) v1, AO.pv (Ty.int IntKind.i64) v2, AO.pv Ty.str v3, AO.pv Ty.str v4]), dd, dd, dd, dd, dd, dd, AV.o (AO.box 23 [AO.pv Ty.str v5, AO.pv (Ty.int IntKind.i64) v6, AO.pv (Ty.int IntKind.i64) v7, AO.pv Ty.str v8, AO.pv Ty.str v9]), AV.o (AO.pv (Ty.int IntKind.i64) v10), dd, dd, dd, dd, dd, dd, dd, dd, dd, dd, dd, dd, dd, dd, dd, dd, dd, dd, dd, dd, dd, dd, dd, dd, dd, dd, dd, dd, dd, dd, AV.o (AO.pv (Ty.int IntKind.i64) v11), dd, dd, dd, dd, dd, dd, dd, dd, dd, dd, dd, dd, dd, dd, dd, dd, dd, dd, dd, dd, dd, dd]
noncomputable def J4_9 (G : Gate) (call : CallF) (k : Nat) (v0 v1 v2 v3 v4 v5 v6 v7 v8 v9 v10 v11 : PV) : R := G 9 (regAt Tryd.prog call 4 [.b, .b, .b, .b, .b, .b, .b, .a]) (SJ4_9 v0 v1 v2 v3 v4 v5 v6 v7 v8 v9 v10 v11) (behind Tryd.prog H0 G call k 4 [.b, .b, .b, .b, .b, .b, .b, .a] .normal)
def SJ4_6 (v0 v1 v2 v3 v4 v5 v6 : PV) : St := [dd, dd, dd, AV.o (AO.box 23 [AO.pv Ty.str v0, AO.pv (Ty.int IntKind.i64) v1, AO.pv (Ty.int IntKind.i64) v2, AO.pv Ty.str v3, AO.pv Ty.str v4]), dd, dd, dd, dd, dd, AV.o (AO.pv Ty.str v5), dd, dd, dd, dd, dd, dd, dd, dd, dd, dd, dd, dd, dd, AV.o (AO.pv Ty.str v6), dd, dd, dd, dd, dd, dd, dd, dd, dd, dd, dd, dd, dd, dd, dd, dd, dd, dd, dd, dd, dd, dd, dd, dd, dd, dd, dd, dd, dd, dd, dd, dd, dd, dd, dd, dd, dd, dd, dd, dd, dd]
noncomputable def J4_6 (G : Gate) (call : CallF) (k : Nat) (v0 v1 v2 v3 v4 v5 v6 : PV) : R := G 6 (regAt Tryd.prog call 4 [.b, .b, .b, .b, .b, .a]) (SJ4_6 v0 v1 v2 v3 v4 v5 v6) (behind Tryd.prog H0 G call k 4 [.b, .b, .b, .b, .b, .a] .normal)
theorem J4_5_eq (call : CallF) (k : Nat) (v0 v1 v2 v3 v4 v5 v6 v7 : PV) : J4_5 gate1 call k v0 v1 v2 v3 v4 v5 v6 v7 =
  some ([AO.pv Ty.bool (PV.bool false)], []) := by rw [J4_5, gate1_app]; kernel_rfl
theorem J4_9_eq (call : CallF) (k : Nat) (v0 v1 v2 v3 v4 v5 v6 v7 v8 v9 v10 v11 : PV) : J4_9 gate1 call k v0 v1 v2 v3 v4 v5 v6 v7 v8 v9 v10 v11 =
  bif eqI (v10.toInt) (0) then
    bif v5.toStr.data.toList == v0.toStr.data.toList && (eqI (v6.toInt) (v1.toInt) && (eqI (v7.toInt) (v2.toInt) && (v8.toStr.data.toList == v3.toStr.data.toList && v9.toStr.data.toList == v4.toStr.data.toList))) then
      let c7 := call 12 []
      bif okRes Ty.bool c7 then
        some ([AO.pv Ty.bool (resPV c7)], [])
      else
        none
    else
      some ([AO.pv Ty.bool (PV.bool false)], [])
  else
    some ([AO.pv Ty.bool (PV.bool false)], []) := by rw [J4_9, gate1_app]; kernel_rfl
theorem J4_6_eq (call : CallF) (k : Nat) (v0 v1 v2 v3 v4 v5 v6 : PV) : J4_6 gate1 call k v0 v1 v2 v3 v4 v5 v6 =
  let c4 := call 13 [AO.pv Ty.str v5]
  bif !Nat.beq 2 1 && okMany (List.map (tyOf Tryd.prog) #[23, 31].toList) c4 then
    let c5 := call 17 [AO.pv (Ty.st 23) (PV.agg [v0, v1, v2, v3, v4])]
    bif okRes Ty.bool c5 then
      bif !(resPV c5).toBool then
        bif v5.toStr.data.toList == (ByteArray.mk #[]).data.toList then
          bif eqI ((resAt 1 c4).toInt) (3) then
            let c6 := call 12 []
            bif okRes Ty.bool c6 then
              some ([AO.pv Ty.bool (resPV c6)], [])
            else
              none
          else
            some ([AO.pv Ty.bool (PV.bool false)], [])
        else
          some ([AO.pv Ty.bool (PV.bool false)], [])
      else
        J4_9 gate1 call k (v0) (v1) (v2) (v3) (v4) ((resAt 0 c4).cell 0) ((resAt 0 c4).cell 1) ((resAt 0 c4).cell 2) ((resAt 0 c4).cell 3) ((resAt 0 c4).cell 4) (resAt 1 c4) (resAt 1 c4)
    else
      none
  else
    none := by rw [J4_6, gate1_app]; kernel_rfl
theorem R4 (call : CallF) (k : Nat) (x0 x1 : PV) : evStep Tryd.prog H0 call k 4 [AO.pv Ty.str x0, AO.pv (Ty.st 23) x1] =
  let c0 := call 13 [AO.pv Ty.str x0]
  bif !Nat.beq 2 1 && okMany (List.map (tyOf Tryd.prog) #[23, 31].toList) c0 then
    let c1 := call 14 [AO.pv Ty.str x0]
    bif !Nat.beq 2 1 && okMany (List.map (tyOf Tryd.prog) #[23, 31].toList) c1 then
      let c2 := call 15 [AO.pv (Ty.st 23) (PV.agg [x1.cell 0, x1.cell 1, x1.cell 2, x1.cell 3, x1.cell 4])]
      bif okRes Ty.str c2 then
        bif !(((resAt 0 c0).cell 0).toStr.data.toList == ((resAt 0 c1).cell 0).toStr.data.toList && (eqI (((resAt 0 c0).cell 1).toInt) (((resAt 0 c1).cell 1).toInt) && (eqI (((resAt 0 c0).cell 2).toInt) (((resAt 0 c1).cell 2).toInt) && (((resAt 0 c0).cell 3).toStr.data.toList == ((resAt 0 c1).cell 3).toStr.data.toList && ((resAt 0 c0).cell 4).toStr.data.toList == ((resAt 0 c1).cell 4).toStr.data.toList)))) then
          J4_5 gate1 call k (x1.cell 0) (x1.cell 1) (x1.cell 2) (x1.cell 3) (x1.cell 4) (resPV c2) (resPV c2) (PV.bool true)
        else
          bif !eqI ((resAt 1 c0).toInt) ((resAt 1 c1).toInt) then
            J4_5 gate1 call k (x1.cell 0) (x1.cell 1) (x1.cell 2) (x1.cell 3) (x1.cell 4) (resPV c2) (resPV c2) (PV.bool true)
          else
            let c3 := call 16 [AO.pv (Ty.st 23) (PV.agg [x1.cell 0, x1.cell 1, x1.cell 2, x1.cell 3, x1.cell 4])]
            bif okRes Ty.str c3 then
              bif !(resPV c2).toStr.data.toList == (resPV c3).toStr.data.toList then
                J4_5 gate1 call k (x1.cell 0) (x1.cell 1) (x1.cell 2) (x1.cell 3) (x1.cell 4) (resPV c2) (resPV c2) (PV.bool true)
              else
                J4_6 gate1 call k (x1.cell 0) (x1.cell 1) (x1.cell 2) (x1.cell 3) (x1.cell 4) (resPV c2) (resPV c2)
            else
              none
      else
        none
    else
      none
  else
    none := by rw [evStep_eq]; kernel_rfl
end Go.V

namespace Go.V

/-- math/bits.Add64, as the model runs it. -/
def add64B (f0 : FuncId) : CallF := fun f az =>
  bif Nat.beq f f0 then
    match az with
    | [.pv (.int .u64) x, .pv (.int .u64) y, .pv (.int .u64) c] =>
      bif leI 0 x.toInt && (leI 0 y.toInt && (leI 0 c.toInt && leI c.toInt 1)) then
        some ([.pv (.int .u64) (.int .u64 ((x.toInt + y.toInt + c.toInt) % 18446744073709551616)), .pv (.int .u64) (.int .u64 ((x.toInt + y.toInt + c.toInt) / 18446744073709551616))], [])
      else none
    | _ => none
  else none

theorem add64B_ok {P : Program} {f0 : FuncId} {fn : Func} (hf : P.funcs[f0]? = some fn) (hname : (fn.name == "runtime.NumGoroutine") = false)
    (hb : fn.body.isNone = true) (hn : Extern.findNext fn = none) (he : Extern.find fn = some add64Entry) : CallOk P (add64B f0) := by
  refine ⟨fun f az res back h vals w g hargs hfr _ hown => ?_⟩
  unfold add64B at h
  cases hff : Nat.beq f f0 with
  | false => simp [hff] at h
  | true =>
    have := Nat.eq_of_beq_eq_true hff
    subst this
    simp only [hff, cond_true] at h
    split at h
    · rename_i x y c
      cases hc : (leI 0 x.toInt && (leI 0 y.toInt && (leI 0 c.toInt && leI c.toInt 1))) with
      | false => simp [hc] at h
      | true =>
        simp only [hc, cond_true, Option.some.injEq, Prod.mk.injEq] at h
        obtain ⟨rfl, rfl⟩ := h
        simp only [Bool.and_eq_true] at hc
        obtain ⟨c1, c2, c3, c4⟩ := hc
        have c1 : 0 ≤ x.toInt := of_decide_eq_true c1
        have c2 : 0 ≤ y.toInt := of_decide_eq_true c2
        have c3 : 0 ≤ c.toInt := of_decide_eq_true c3
        have c4 : c.toInt ≤ 1 := of_decide_eq_true c4
        match vals, hargs with
        | [vx, vy, vc], ⟨hx, hy, hcc, _⟩ =>
          obtain ⟨nx, rfl, rfl⟩ := hx.int_inv
          obtain ⟨ny, rfl, rfl⟩ := hy.int_inv
          obtain ⟨nc, rfl, rfl⟩ := hcc.int_inv
          simp only [PV.toInt] at c1 c2 c3 c4 ⊢
          refine .inr ⟨.tuple #[.int .u64 ((nx + ny + nc) % 18446744073709551616), .int .u64 ((nx + ny + nc) / 18446744073709551616)], w, ?_, ?_⟩
          · rw [run_callFunc_extern hf hname hb hn he]
            have := run_add64 (P := P) nx ny nc c1 c2 c3 c4 w
            rw [show (⟨[.int .u64 nx, .int .u64 ny, .int .u64 nc]⟩ : Array Value) = #[.int .u64 nx, .int .u64 ny, .int .u64 nc] from rfl, this]
            rfl
          · refine ⟨_, g, rfl, Fr.refl w g hfr, ?_, ?_, rfl, fun i y h => by simp at h⟩
            · refine ⟨_, rfl, rfl, fun i x v hx hv => ?_⟩
              match i with
              | 0 => simp at hx hv; subst hx hv; exact ⟨_, _, rfl, .int _ _⟩
              | 1 => simp at hx hv; subst hx hv; exact ⟨_, _, rfl, .int _ _⟩
              | i + 2 => simp at hx
            · intro b s p ht
              exact Nat.le_of_lt (hown b s p ht)
    · cases h
end Go.V
