/- What the evaluator makes of the law's functions, each as an equation of its own with its calls left open. Conditions: none. -/
import Derived.Test.YtcdkljinnmphjaaVH
import Derived.Test.YtcdkljinnmphjaaProg
set_option maxRecDepth 100000
set_option linter.unusedVariables false
namespace Go.V
open Go.Proofs
def hints : List (Nat × List (Nat × List Nat)) := [(3, [(100003, [2, 3, 4]), (100009, [2, 3, 8, 9, 31]), (100011, [2, 3, 9]), (100008, [2, 3, 8, 9, 31, 71]), (100002, [2, 3, 4, 24])]), (5, [(100003, [1])]), (7, [(100003, [1, 2, 4]), (100006, [4]), (100005, [1, 2, 4, 6, 11, 12, 13, 22])]), (8, [(100008, [2, 4]), (2, [2, 4, 8, 9, 10]), (100003, [1, 2, 4, 8, 9, 10, 29]), (100007, [1, 2, 4, 8, 9, 10, 29]), (100006, [1, 2, 4, 7, 8, 9, 10, 12, 13, 29]), (100005, [1, 2, 4, 7, 8, 9, 10, 12, 13, 22, 29])]), (11, [(100003, [2, 3]), (100008, []), (4, [2, 3, 5]), (100006, [2, 3, 5, 62]), (100005, [2, 3, 5, 62]), (100002, [2, 3, 55])]), (25, [(100006, [3, 19]), (3, [1, 3, 4]), (100005, [1, 3, 4, 11, 19])]), (26, [(100003, [1]), (100009, []), (4, [22, 23, 24]), (100005, [1, 21, 22, 23, 24, 31]), (100008, [1, 21, 22, 23, 24, 31]), (100002, [1, 20])]), (29, [(100009, [2, 3]), (5, [2, 3, 13, 14, 15]), (100006, [1, 2, 3, 12, 13, 14, 15, 26])]), (31, [(100003, [0, 1]), (100008, []), (4, [0, 1, 5]), (100006, [0, 1, 5, 16]), (100005, [0, 1, 5, 16]), (100007, [0, 1, 5, 16, 39])]), (47, [(100003, [0, 1, 5, 9, 13, 18, 19, 20]), (100009, [0, 1, 5, 9, 13, 18, 19, 20]), (5, [0, 1]), (100006, [0, 1, 5, 9, 13, 18, 19, 20])])]
def H0 : FuncId → Nat → Option (List Nat) := fun f r => match lookN hints f with | some l => lookN l r | none => none
def SJ3_2 (v0 v1 v2 v3 v4 v5 v6 v7 v8 v9 v10 v11 v12 v13 v14 v15 v16 v17 v18 v19 v20 v21 v22 v23 : PV) : St := [dd, dd, AV.o (AO.pv (Ty.sl 3) v0), AV.o (AO.box 27 [AO.pv Ty.str v1, AO.pv Ty.str v2, AO.pv (Ty.int IntKind.i64) v3, AO.pv (Ty.int IntKind.i64) v4, AO.pv (Ty.sl 38) v5, AO.pv Ty.str v6, AO.pv (Ty.int IntKind.i64) v7, AO.pv (Ty.int IntKind.i64) v8, AO.pv Ty.str v9, AO.pv Ty.str v10, AO.pv (Ty.sl 27) v11]), AV.o (AO.box 27 [AO.pv Ty.str v12, AO.pv Ty.str v13, AO.pv (Ty.int IntKind.i64) v14, AO.pv (Ty.int IntKind.i64) v15, AO.pv (Ty.sl 38) v16, AO.pv Ty.str v17, AO.pv (Ty.int IntKind.i64) v18, AO.pv (Ty.int IntKind.i64) v19, AO.pv Ty.str v20, AO.pv Ty.str v21, AO.pv (Ty.sl 27) v22]), dd, dd, dd, dd, dd, dd, dd, dd, dd, dd, dd, dd, dd, dd, dd, dd, dd, dd, dd, AV.o (AO.pv Ty.bool v23), dd, dd, dd, dd, dd, dd, dd, dd, dd, dd, dd, dd, dd, dd, dd, dd, dd, dd, dd, dd, dd, dd, dd, dd, dd, dd, dd, dd, dd, dd, dd, dd, dd, dd, dd, dd, dd, dd, dd, dd, dd, dd, dd, dd, dd, dd, dd, dd, dd, dd, dd, dd, dd, dd, dd, dd, dd, dd, dd, dd, dd, dd, dd, dd, dd, dd, dd]
noncomputable def J3_2 (G : Gate) (call : CallF) (k : Nat) (v0 v1 v2 v3 v4 v5 v6 v7 v8 v9 v10 v11 v12 v13 v14 v15 v16 v17 v18 v19 v20 v21 v22 v23 : PV) : R := G 2 (regAt Try.prog call 3 [.b, .a, .b, .x, .a]) (SJ3_2 v0 v1 v2 v3 v4 v5 v6 v7 v8 v9 v10 v11 v12 v13 v14 v15 v16 v17 v18 v19 v20 v21 v22 v23) (behind Try.prog H0 G call k 3 [.b, .a, .b, .x, .a] .normal)
def SJ3_8 (v0 v1 v2 v3 v4 v5 v6 v7 v8 v9 v10 v11 v12 v13 v14 v15 v16 v17 v18 v19 v20 v21 v22 v23 v24 v25 : PV) : St := [dd, dd, AV.o (AO.pv (Ty.sl 3) v0), AV.o (AO.box 27 [AO.pv Ty.str v1, AO.pv Ty.str v2, AO.pv (Ty.int IntKind.i64) v3, AO.pv (Ty.int IntKind.i64) v4, AO.pv (Ty.sl 38) v5, AO.pv Ty.str v6, AO.pv (Ty.int IntKind.i64) v7, AO.pv (Ty.int IntKind.i64) v8, AO.pv Ty.str v9, AO.pv Ty.str v10, AO.pv (Ty.sl 27) v11]), dd, dd, dd, dd, AV.o (AO.pv (Ty.int IntKind.i64) v12), AV.o (AO.box 27 [AO.pv Ty.str v13, AO.pv Ty.str v14, AO.pv (Ty.int IntKind.i64) v15, AO.pv (Ty.int IntKind.i64) v16, AO.pv (Ty.sl 38) v17, AO.pv Ty.str v18, AO.pv (Ty.int IntKind.i64) v19, AO.pv (Ty.int IntKind.i64) v20, AO.pv Ty.str v21, AO.pv Ty.str v22, AO.pv (Ty.sl 27) v23]), dd, dd, dd, dd, dd, dd, dd, dd, dd, dd, dd, dd, dd, dd, dd, dd, dd, dd, dd, dd, dd, AV.o (AO.pv (Ty.int IntKind.i64) v24), dd, dd, dd, dd, dd, dd, dd, dd, dd, dd, dd, dd, dd, dd, dd, dd, dd, dd, dd, dd, dd, dd, dd, dd, dd, dd, dd, dd, dd, dd, dd, dd, dd, dd, dd, dd, dd, dd, dd, AV.o (AO.pv Ty.bool v25), dd, dd, dd, dd, dd, dd, dd, dd, dd, dd, dd, dd, dd, dd, dd, dd, dd, dd, dd, dd]
noncomputable def J3_8 (G : Gate) (call : CallF) (k : Nat) (v0 v1 v2 v3 v4 v5 v6 v7 v8 v9 v10 v11 v12 v13 v14 v15 v16 v17 v18 v19 v20 v21 v22 v23 v24 v25 : PV) : R := G 8 (regAt Try.prog call 3 [.b, .b, .b, .b, .b, .b, .a, .b, .x, .a]) (SJ3_8 v0 v1 v2 v3 v4 v5 v6 v7 v8 v9 v10 v11 v12 v13 v14 v15 v16 v17 v18 v19 v20 v21 v22 v23 v24 v25) (behind Try.prog H0 G call k 3 [.b, .b, .b, .b, .b, .b, .a, .b, .x, .a] .normal)
def SJ3_11 (v0 v1 v2 v3 v4 v5 v6 v7 v8 v9 v10 v11 v12 v13 v14 v15 v16 v17 v18 v19 v20 v21 v22 : PV) : St := [dd, dd, AV.o (AO.pv (Ty.sl 3) v0), AV.o (AO.box 27 [AO.pv Ty.str v1, AO.pv Ty.str v2, AO.pv (Ty.int IntKind.i64) v3, AO.pv (Ty.int IntKind.i64) v4, AO.pv (Ty.sl 38) v5, AO.pv Ty.str v6, AO.pv (Ty.int IntKind.i64) v7, AO.pv (Ty.int IntKind.i64) v8, AO.pv Ty.str v9, AO.pv Ty.str v10, AO.pv (Ty.sl 27) v11]), dd, dd, dd, dd, dd, AV.o (AO.box 27 [AO.pv Ty.str v12, AO.pv Ty.str v13, AO.pv (Ty.int IntKind.i64) v14, AO.pv (Ty.int IntKind.i64) v15, AO.pv (Ty.sl 38) v16, AO.pv Ty.str v17, AO.pv (Ty.int IntKind.i64) v18, AO.pv (Ty.int IntKind.i64) v19, AO.pv Ty.str v20, AO.pv Ty.str v21, AO.pv (Ty.sl 27) v22]), dd, dd, dd, dd, dd, dd, dd, dd, dd, dd, dd, dd, dd, dd, dd, dd, dd, dd, dd, dd, dd, dd, dd, dd, dd, dd, dd, dd, dd, dd, dd, dd, dd, dd, dd, dd, dd, dd, dd, dd, dd, dd, dd, dd, dd, dd, dd, dd, dd, dd, dd, dd, dd, dd, dd, dd, dd, dd, dd, dd, dd, dd, dd, dd, dd, dd, dd, dd, dd, dd, dd, dd, dd, dd, dd, dd, dd, dd, dd, dd, dd, dd]
noncomputable def J3_11 (G : Gate) (call : CallF) (k : Nat) (v0 v1 v2 v3 v4 v5 v6 v7 v8 v9 v10 v11 v12 v13 v14 v15 v16 v17 v18 v19 v20 v21 v22 : PV) : R := G 11 (regAt Try.prog call 3 [.b, .b, .b, .b, .b, .b, .b, .b, .a]) (SJ3_11 v0 v1 v2 v3 v4 v5 v6 v7 v8 v9 v10 v11 v12 v13 v14 v15 v16 v17 v18 v19 v20 v21 v22) (behind Try.prog H0 G call k 3 [.b, .b, .b, .b, .b, .b, .b, .b, .a] .normal)
def SJ3_9 (v0 v1 v2 v3 v4 v5 v6 v7 v8 v9 v10 v11 v12 v13 v14 v15 v16 v17 v18 v19 v20 v21 v22 v23 v24 : PV) : St := [dd, dd, AV.o (AO.pv (Ty.sl 3) v0), AV.o (AO.box 27 [AO.pv Ty.str v1, AO.pv Ty.str v2, AO.pv (Ty.int IntKind.i64) v3, AO.pv (Ty.int IntKind.i64) v4, AO.pv (Ty.sl 38) v5, AO.pv Ty.str v6, AO.pv (Ty.int IntKind.i64) v7, AO.pv (Ty.int IntKind.i64) v8, AO.pv Ty.str v9, AO.pv Ty.str v10, AO.pv (Ty.sl 27) v11]), dd, dd, dd, dd, AV.o (AO.pv (Ty.int IntKind.i64) v12), AV.o (AO.box 27 [AO.pv Ty.str v13, AO.pv Ty.str v14, AO.pv (Ty.int IntKind.i64) v15, AO.pv (Ty.int IntKind.i64) v16, AO.pv (Ty.sl 38) v17, AO.pv Ty.str v18, AO.pv (Ty.int IntKind.i64) v19, AO.pv (Ty.int IntKind.i64) v20, AO.pv Ty.str v21, AO.pv Ty.str v22, AO.pv (Ty.sl 27) v23]), dd, dd, dd, dd, dd, dd, dd, dd, dd, dd, dd, dd, dd, dd, dd, dd, dd, dd, dd, dd, dd, AV.o (AO.pv (Ty.int IntKind.i64) v24), dd, dd, dd, dd, dd, dd, dd, dd, dd, dd, dd, dd, dd, dd, dd, dd, dd, dd, dd, dd, dd, dd, dd, dd, dd, dd, dd, dd, dd, dd, dd, dd, dd, dd, dd, dd, dd, dd, dd, dd, dd, dd, dd, dd, dd, dd, dd, dd, dd, dd, dd, dd, dd, dd, dd, dd, dd, dd, dd, dd]
noncomputable def J3_9 (G : Gate) (call : CallF) (k : Nat) (v0 v1 v2 v3 v4 v5 v6 v7 v8 v9 v10 v11 v12 v13 v14 v15 v16 v17 v18 v19 v20 v21 v22 v23 v24 : PV) : R := G 9 (regAt Try.prog call 3 [.b, .b, .b, .b, .b, .b, .b, .a, .a]) (SJ3_9 v0 v1 v2 v3 v4 v5 v6 v7 v8 v9 v10 v11 v12 v13 v14 v15 v16 v17 v18 v19 v20 v21 v22 v23 v24) (behind Try.prog H0 G call k 3 [.b, .b, .b, .b, .b, .b, .b, .a, .a] .normal)
def SJ3_3 (v0 v1 v2 v3 v4 v5 v6 v7 v8 v9 v10 v11 v12 v13 v14 v15 v16 v17 v18 v19 v20 v21 v22 : PV) : St := [dd, dd, AV.o (AO.pv (Ty.sl 3) v0), AV.o (AO.box 27 [AO.pv Ty.str v1, AO.pv Ty.str v2, AO.pv (Ty.int IntKind.i64) v3, AO.pv (Ty.int IntKind.i64) v4, AO.pv (Ty.sl 38) v5, AO.pv Ty.str v6, AO.pv (Ty.int IntKind.i64) v7, AO.pv (Ty.int IntKind.i64) v8, AO.pv Ty.str v9, AO.pv Ty.str v10, AO.pv (Ty.sl 27) v11]), AV.o (AO.box 27 [AO.pv Ty.str v12, AO.pv Ty.str v13, AO.pv (Ty.int IntKind.i64) v14, AO.pv (Ty.int IntKind.i64) v15, AO.pv (Ty.sl 38) v16, AO.pv Ty.str v17, AO.pv (Ty.int IntKind.i64) v18, AO.pv (Ty.int IntKind.i64) v19, AO.pv Ty.str v20, AO.pv Ty.str v21, AO.pv (Ty.sl 27) v22]), dd, dd, dd, dd, dd, dd, dd, dd, dd, dd, dd, dd, dd, dd, dd, dd, dd, dd, dd, dd, dd, dd, dd, dd, dd, dd, dd, dd, dd, dd, dd, dd, dd, dd, dd, dd, dd, dd, dd, dd, dd, dd, dd, dd, dd, dd, dd, dd, dd, dd, dd, dd, dd, dd, dd, dd, dd, dd, dd, dd, dd, dd, dd, dd, dd, dd, dd, dd, dd, dd, dd, dd, dd, dd, dd, dd, dd, dd, dd, dd, dd, dd, dd, dd, dd, dd, dd]
noncomputable def J3_3 (G : Gate) (call : CallF) (k : Nat) (v0 v1 v2 v3 v4 v5 v6 v7 v8 v9 v10 v11 v12 v13 v14 v15 v16 v17 v18 v19 v20 v21 v22 : PV) : R := G 3 (regAt Try.prog call 3 [.b, .b, .a]) (SJ3_3 v0 v1 v2 v3 v4 v5 v6 v7 v8 v9 v10 v11 v12 v13 v14 v15 v16 v17 v18 v19 v20 v21 v22) (behind Try.prog H0 G call k 3 [.b, .b, .a] .normal)
theorem J3_2_eq (call : CallF) (k : Nat) (v0 v1 v2 v3 v4 v5 v6 v7 v8 v9 v10 v11 v12 v13 v14 v15 v16 v17 v18 v19 v20 v21 v22 v23 : PV) : J3_2 gate1 call k v0 v1 v2 v3 v4 v5 v6 v7 v8 v9 v10 v11 v12 v13 v14 v15 v16 v17 v18 v19 v20 v21 v22 v23 =
  let c1 := call 6 []
  bif okRes Ty.bool c1 then
    some ([AO.pv Ty.bool (resPV c1)], [])
  else
    none := by rw [J3_2, gate1_app]; kernel_rfl
theorem J3_8_eq (call : CallF) (k : Nat) (v0 v1 v2 v3 v4 v5 v6 v7 v8 v9 v10 v11 v12 v13 v14 v15 v16 v17 v18 v19 v20 v21 v22 v23 v24 v25 : PV) : J3_8 gate1 call k v0 v1 v2 v3 v4 v5 v6 v7 v8 v9 v10 v11 v12 v13 v14 v15 v16 v17 v18 v19 v20 v21 v22 v23 v24 v25 =
  some ([AO.pv Ty.bool (PV.bool false)], []) := by rw [J3_8, gate1_app]; kernel_rfl
theorem J3_11_eq (call : CallF) (k : Nat) (v0 v1 v2 v3 v4 v5 v6 v7 v8 v9 v10 v11 v12 v13 v14 v15 v16 v17 v18 v19 v20 v21 v22 : PV) : J3_11 gate1 call k v0 v1 v2 v3 v4 v5 v6 v7 v8 v9 v10 v11 v12 v13 v14 v15 v16 v17 v18 v19 v20 v21 v22 =
  let c10 := call 10 [AO.pv (Ty.st 27) (PV.agg [v1, v2, v3, v4, v5, v6, v7, v8, v9, v10, v11]), AO.pv (Ty.sl 3) v0, AO.pv (Ty.st 27) (PV.agg [v12, v13, v14, v15, v16, v17, v18, v19, v20, v21, v22])]
  bif !Nat.beq 2 1 && okMany (List.map (tyOf Try.prog) #[27, 31].toList) c10 then
    bif eqI ((resAt 1 c10).toInt) (0) then
      let c11 := call 11 [AO.pv (Ty.st 27) (PV.agg [(resAt 0 c10).cell 0, (resAt 0 c10).cell 1, (resAt 0 c10).cell 2, (resAt 0 c10).cell 3, (resAt 0 c10).cell 4, (resAt 0 c10).cell 5, (resAt 0 c10).cell 6, (resAt 0 c10).cell 7, (resAt 0 c10).cell 8, (resAt 0 c10).cell 9, (resAt 0 c10).cell 10]), AO.pv (Ty.st 27) (PV.agg [v1, v2, v3, v4, v5, v6, v7, v8, v9, v10, v11])]
      bif okRes Ty.bool c11 then
        bif (resPV c11).toBool then
          let c12 := call 6 []
          bif okRes Ty.bool c12 then
            some ([AO.pv Ty.bool (resPV c12)], [])
          else
            none
        else
          some ([AO.pv Ty.bool (PV.bool false)], [])
      else
        none
    else
      some ([AO.pv Ty.bool (PV.bool false)], [])
  else
    none := by rw [J3_11, gate1_app]; kernel_rfl
theorem J3_9_eq (call : CallF) (k : Nat) (v0 v1 v2 v3 v4 v5 v6 v7 v8 v9 v10 v11 v12 v13 v14 v15 v16 v17 v18 v19 v20 v21 v22 v23 v24 : PV) : J3_9 gate1 call k v0 v1 v2 v3 v4 v5 v6 v7 v8 v9 v10 v11 v12 v13 v14 v15 v16 v17 v18 v19 v20 v21 v22 v23 v24 =
  bif !eqI (v12.toInt) (0) then
    let c9 := call 6 []
    bif okRes Ty.bool c9 then
      some ([AO.pv Ty.bool (resPV c9)], [])
    else
      none
  else
    J3_11 gate1 call k (v0) (v1) (v2) (v3) (v4) (v5) (v6) (v7) (v8) (v9) (v10) (v11) (v13) (v14) (v15) (v16) (v17) (v18) (v19) (v20) (v21) (v22) (v23) := by rw [J3_9, gate1_app]; kernel_rfl
theorem J3_3_eq (call : CallF) (k : Nat) (v0 v1 v2 v3 v4 v5 v6 v7 v8 v9 v10 v11 v12 v13 v14 v15 v16 v17 v18 v19 v20 v21 v22 : PV) : J3_3 gate1 call k v0 v1 v2 v3 v4 v5 v6 v7 v8 v9 v10 v11 v12 v13 v14 v15 v16 v17 v18 v19 v20 v21 v22 =
  let c3 := call 7 [AO.pv (Ty.st 27) (PV.agg [v1, v2, v3, v4, v5, v6, v7, v8, v9, v10, v11]), AO.pv (Ty.sl 3) v0]
  bif !Nat.beq 2 1 && okMany (List.map (tyOf Try.prog) #[27, 31].toList) c3 then
    let c4 := call 8 [AO.pv (Ty.st 27) (PV.agg [v1, v2, v3, v4, v5, v6, v7, v8, v9, v10, v11]), AO.pv (Ty.sl 3) v0]
    bif !Nat.beq 2 1 && okMany (List.map (tyOf Try.prog) #[27, 31].toList) c4 then
      let c5 := call 9 [AO.pv (Ty.st 27) (PV.agg [v1, v2, v3, v4, v5, v6, v7, v8, v9, v10, v11]), AO.pv (Ty.sl 3) v0, AO.pv (Ty.st 27) (PV.agg [v12, v13, v14, v15, v16, v17, v18, v19, v20, v21, v22])]
      bif !Nat.beq 2 1 && okMany (List.map (tyOf Try.prog) #[27, 31].toList) c5 then
        let c6 := call 10 [AO.pv (Ty.st 27) (PV.agg [v1, v2, v3, v4, v5, v6, v7, v8, v9, v10, v11]), AO.pv (Ty.sl 3) v0, AO.pv (Ty.st 27) (PV.agg [v12, v13, v14, v15, v16, v17, v18, v19, v20, v21, v22])]
        bif !Nat.beq 2 1 && okMany (List.map (tyOf Try.prog) #[27, 31].toList) c6 then
          bif !eqI ((resAt 1 c4).toInt) ((resAt 1 c3).toInt) then
            J3_8 gate1 call k (v0) (v1) (v2) (v3) (v4) (v5) (v6) (v7) (v8) (v9) (v10) (v11) (resAt 1 c3) ((resAt 0 c4).cell 0) ((resAt 0 c4).cell 1) ((resAt 0 c4).cell 2) ((resAt 0 c4).cell 3) ((resAt 0 c4).cell 4) ((resAt 0 c4).cell 5) ((resAt 0 c4).cell 6) ((resAt 0 c4).cell 7) ((resAt 0 c4).cell 8) ((resAt 0 c4).cell 9) ((resAt 0 c4).cell 10) (resAt 1 c3) (PV.bool true)
          else
            bif !eqI ((resAt 1 c6).toInt) ((resAt 1 c5).toInt) then
              J3_8 gate1 call k (v0) (v1) (v2) (v3) (v4) (v5) (v6) (v7) (v8) (v9) (v10) (v11) (resAt 1 c3) ((resAt 0 c4).cell 0) ((resAt 0 c4).cell 1) ((resAt 0 c4).cell 2) ((resAt 0 c4).cell 3) ((resAt 0 c4).cell 4) ((resAt 0 c4).cell 5) ((resAt 0 c4).cell 6) ((resAt 0 c4).cell 7) ((resAt 0 c4).cell 8) ((resAt 0 c4).cell 9) ((resAt 0 c4).cell 10) (resAt 1 c3) (PV.bool true)
            else
              let c7 := call 11 [AO.pv (Ty.st 27) (PV.agg [(resAt 0 c4).cell 0, (resAt 0 c4).cell 1, (resAt 0 c4).cell 2, (resAt 0 c4).cell 3, (resAt 0 c4).cell 4, (resAt 0 c4).cell 5, (resAt 0 c4).cell 6, (resAt 0 c4).cell 7, (resAt 0 c4).cell 8, (resAt 0 c4).cell 9, (resAt 0 c4).cell 10]), AO.pv (Ty.st 27) (PV.agg [(resAt 0 c3).cell 0, (resAt 0 c3).cell 1, (resAt 0 c3).cell 2, (resAt 0 c3).cell 3, (resAt 0 c3).cell 4, (resAt 0 c3).cell 5, (resAt 0 c3).cell 6, (resAt 0 c3).cell 7, (resAt 0 c3).cell 8, (resAt 0 c3).cell 9, (resAt 0 c3).cell 10])]
              bif okRes Ty.bool c7 then
                bif !(resPV c7).toBool then
                  J3_8 gate1 call k (v0) (v1) (v2) (v3) (v4) (v5) (v6) (v7) (v8) (v9) (v10) (v11) (resAt 1 c3) ((resAt 0 c4).cell 0) ((resAt 0 c4).cell 1) ((resAt 0 c4).cell 2) ((resAt 0 c4).cell 3) ((resAt 0 c4).cell 4) ((resAt 0 c4).cell 5) ((resAt 0 c4).cell 6) ((resAt 0 c4).cell 7) ((resAt 0 c4).cell 8) ((resAt 0 c4).cell 9) ((resAt 0 c4).cell 10) (resAt 1 c3) (PV.bool true)
                else
                  let c8 := call 11 [AO.pv (Ty.st 27) (PV.agg [(resAt 0 c6).cell 0, (resAt 0 c6).cell 1, (resAt 0 c6).cell 2, (resAt 0 c6).cell 3, (resAt 0 c6).cell 4, (resAt 0 c6).cell 5, (resAt 0 c6).cell 6, (resAt 0 c6).cell 7, (resAt 0 c6).cell 8, (resAt 0 c6).cell 9, (resAt 0 c6).cell 10]), AO.pv (Ty.st 27) (PV.agg [(resAt 0 c5).cell 0, (resAt 0 c5).cell 1, (resAt 0 c5).cell 2, (resAt 0 c5).cell 3, (resAt 0 c5).cell 4, (resAt 0 c5).cell 5, (resAt 0 c5).cell 6, (resAt 0 c5).cell 7, (resAt 0 c5).cell 8, (resAt 0 c5).cell 9, (resAt 0 c5).cell 10])]
                  bif okRes Ty.bool c8 then
                    bif !(resPV c8).toBool then
                      J3_8 gate1 call k (v0) (v1) (v2) (v3) (v4) (v5) (v6) (v7) (v8) (v9) (v10) (v11) (resAt 1 c3) ((resAt 0 c4).cell 0) ((resAt 0 c4).cell 1) ((resAt 0 c4).cell 2) ((resAt 0 c4).cell 3) ((resAt 0 c4).cell 4) ((resAt 0 c4).cell 5) ((resAt 0 c4).cell 6) ((resAt 0 c4).cell 7) ((resAt 0 c4).cell 8) ((resAt 0 c4).cell 9) ((resAt 0 c4).cell 10) (resAt 1 c3) (PV.bool true)
                    else
                      J3_9 gate1 call k (v0) (v1) (v2) (v3) (v4) (v5) (v6) (v7) (v8) (v9) (v10) (v11) (resAt 1 c3) ((resAt 0 c4).cell 0) ((resAt 0 c4).cell 1) ((resAt 0 c4).cell 2) ((resAt 0 c4).cell 3) ((resAt 0 c4).cell 4) ((resAt 0 c4).cell 5) ((resAt 0 c4).cell 6) ((resAt 0 c4).cell 7) ((resAt 0 c4).cell 8) ((resAt 0 c4).cell 9) ((resAt 0 c4).cell 10) (resAt 1 c3)
                  else
                    none
              else
                none
        else
          none
      else
        none
    else
      none
  else
    none := by rw [J3_3, gate1_app]; kernel_rfl
theorem R3 (call : CallF) (k : Nat) (x0 x1 x2 : PV) : evStep Try.prog H0 call k 3 [AO.pv (Ty.st 27) x0, AO.pv (Ty.st 27) x1, AO.pv (Ty.sl 3) x2] =
  let c0 := call 5 [AO.pv (Ty.st 27) (PV.agg [x0.cell 0, x0.cell 1, x0.cell 2, x0.cell 3, x0.cell 4, x0.cell 5, x0.cell 6, x0.cell 7, x0.cell 8, x0.cell 9, x0.cell 10])]
  bif okRes Ty.bool c0 then
    bif !(resPV c0).toBool then
      J3_2 gate1 call k (x2) (x0.cell 0) (x0.cell 1) (x0.cell 2) (x0.cell 3) (x0.cell 4) (x0.cell 5) (x0.cell 6) (x0.cell 7) (x0.cell 8) (x0.cell 9) (x0.cell 10) (x1.cell 0) (x1.cell 1) (x1.cell 2) (x1.cell 3) (x1.cell 4) (x1.cell 5) (x1.cell 6) (x1.cell 7) (x1.cell 8) (x1.cell 9) (x1.cell 10) (PV.bool true)
    else
      let c2 := call 5 [AO.pv (Ty.st 27) (PV.agg [x1.cell 0, x1.cell 1, x1.cell 2, x1.cell 3, x1.cell 4, x1.cell 5, x1.cell 6, x1.cell 7, x1.cell 8, x1.cell 9, x1.cell 10])]
      bif okRes Ty.bool c2 then
        bif !(resPV c2).toBool then
          J3_2 gate1 call k (x2) (x0.cell 0) (x0.cell 1) (x0.cell 2) (x0.cell 3) (x0.cell 4) (x0.cell 5) (x0.cell 6) (x0.cell 7) (x0.cell 8) (x0.cell 9) (x0.cell 10) (x1.cell 0) (x1.cell 1) (x1.cell 2) (x1.cell 3) (x1.cell 4) (x1.cell 5) (x1.cell 6) (x1.cell 7) (x1.cell 8) (x1.cell 9) (x1.cell 10) (PV.bool true)
        else
          J3_3 gate1 call k (x2) (x0.cell 0) (x0.cell 1) (x0.cell 2) (x0.cell 3) (x0.cell 4) (x0.cell 5) (x0.cell 6) (x0.cell 7) (x0.cell 8) (x0.cell 9) (x0.cell 10) (x1.cell 0) (x1.cell 1) (x1.cell 2) (x1.cell 3) (x1.cell 4) (x1.cell 5) (x1.cell 6) (x1.cell 7) (x1.cell 8) (x1.cell 9) (x1.cell 10)
      else
        none
  else
    none := by rw [evStep_eq]; kernel_rfl
def SJ5_3 (v0 v1 v2 v3 v4 v5 v6 v7 v8 v9 v10 : PV) : St := [dd, AV.o (AO.box 27 [AO.pv Ty.str v0, AO.pv Ty.str v1, AO.pv (Ty.int IntKind.i64) v2, AO.pv (Ty.int IntKind.i64) v3, AO.pv (Ty.sl 38) v4, AO.pv Ty.str v5, AO.pv (Ty.int IntKind.i64) v6, AO.pv (Ty.int IntKind.i64) v7, AO.pv Ty.str v8, AO.pv Ty.str v9, AO.pv (Ty.sl 27) v10]), dd, dd, dd, dd, dd, dd]
noncomputable def J5_3 (G : Gate) (call : CallF) (k : Nat) (v0 v1 v2 v3 v4 v5 v6 v7 v8 v9 v10 : PV) : R := G 3 (regAt Try.prog call 5 [.b, .b, .a]) (SJ5_3 v0 v1 v2 v3 v4 v5 v6 v7 v8 v9 v10) (behind Try.prog H0 G call k 5 [.b, .b, .a] .normal)
theorem J5_3_eq (call : CallF) (k : Nat) (v0 v1 v2 v3 v4 v5 v6 v7 v8 v9 v10 : PV) : J5_3 gate1 call k v0 v1 v2 v3 v4 v5 v6 v7 v8 v9 v10 =
  let c1 := call 26 [AO.pv (Ty.st 27) (PV.agg [v0, v1, v2, v3, v4, v5, v6, v7, v8, v9, v10])]
  bif okRes Ty.bool c1 then
    some ([AO.pv Ty.bool (resPV c1)], [])
  else
    none := by rw [J5_3, gate1_app]; kernel_rfl
theorem R5 (call : CallF) (k : Nat) (x0 : PV) : evStep Try.prog H0 call k 5 [AO.pv (Ty.st 27) x0] =
  let c0 := call 25 [AO.pv (Ty.st 27) (PV.agg [x0.cell 0, x0.cell 1, x0.cell 2, x0.cell 3, x0.cell 4, x0.cell 5, x0.cell 6, x0.cell 7, x0.cell 8, x0.cell 9, x0.cell 10])]
  bif okRes (Ty.int IntKind.i64) c0 then
    bif ltI (700) ((resPV c0).toInt) then
      some ([AO.pv Ty.bool (PV.bool false)], [])
    else
      J5_3 gate1 call k (x0.cell 0) (x0.cell 1) (x0.cell 2) (x0.cell 3) (x0.cell 4) (x0.cell 5) (x0.cell 6) (x0.cell 7) (x0.cell 8) (x0.cell 9) (x0.cell 10)
  else
    none := by rw [evStep_eq]; kernel_rfl
def SJ7_5 (v0 v1 v2 v3 v4 v5 v6 v7 v8 v9 v10 v11 v12 v13 v14 v15 : PV) (v16 : List PV) (v17 v18 v19 v20 v21 : PV) (v22 : List PV) (v23 v24 v25 v26 v27 : PV) : St := [dd, AV.o (AO.pv (Ty.sl 3) v0), AV.o (AO.box 27 [AO.pv Ty.str v1, AO.pv Ty.str v2, AO.pv (Ty.int IntKind.i64) v3, AO.pv (Ty.int IntKind.i64) v4, AO.pv (Ty.sl 38) v5, AO.pv Ty.str v6, AO.pv (Ty.int IntKind.i64) v7, AO.pv (Ty.int IntKind.i64) v8, AO.pv Ty.str v9, AO.pv Ty.str v10, AO.pv (Ty.sl 27) v11]), dd, AV.o (AO.box 27 [AO.pv Ty.str v12, AO.pv Ty.str v13, AO.pv (Ty.int IntKind.i64) v14, AO.pv (Ty.int IntKind.i64) v15, AO.arr 38 v16, AO.pv Ty.str v17, AO.pv (Ty.int IntKind.i64) v18, AO.pv (Ty.int IntKind.i64) v19, AO.pv Ty.str v20, AO.pv Ty.str v21, AO.arr 27 v22]), dd, AV.o (AO.pv (Ty.int IntKind.i64) v23), dd, dd, dd, dd, AV.o (AO.pv (Ty.sl 3) v24), AV.ip 3 v25 0, AV.o (AO.pv (Ty.int IntKind.i64) v26), dd, dd, dd, dd, dd, dd, dd, dd, AV.o (AO.pv Ty.bool v27), dd, dd, dd, dd, dd, dd, dd, dd, dd, dd, dd]
noncomputable def J7_5 (G : Gate) (call : CallF) (k : Nat) (v0 v1 v2 v3 v4 v5 v6 v7 v8 v9 v10 v11 v12 v13 v14 v15 : PV) (v16 : List PV) (v17 v18 v19 v20 v21 : PV) (v22 : List PV) (v23 v24 v25 v26 v27 : PV) : R := G 5 (regAt Try.prog call 7 [.b, .b, .a, .b, .b, .x, .a]) (SJ7_5 v0 v1 v2 v3 v4 v5 v6 v7 v8 v9 v10 v11 v12 v13 v14 v15 v16 v17 v18 v19 v20 v21 v22 v23 v24 v25 v26 v27) (behind Try.prog H0 G call k 7 [.b, .b, .a, .b, .b, .x, .a] .normal)
def SJ7_6 (v0 v1 v2 v3 : PV) (v4 : List PV) (v5 v6 v7 v8 v9 : PV) (v10 : List PV) : St := [dd, dd, dd, dd, AV.o (AO.box 27 [AO.pv Ty.str v0, AO.pv Ty.str v1, AO.pv (Ty.int IntKind.i64) v2, AO.pv (Ty.int IntKind.i64) v3, AO.arr 38 v4, AO.pv Ty.str v5, AO.pv (Ty.int IntKind.i64) v6, AO.pv (Ty.int IntKind.i64) v7, AO.pv Ty.str v8, AO.pv Ty.str v9, AO.arr 27 v10]), dd, dd, dd, dd, dd, dd, dd, dd, dd, dd, dd, dd, dd, dd, dd, dd, dd, dd, dd, dd, dd, dd, dd, dd, dd, dd, dd, dd, dd]
noncomputable def J7_6 (G : Gate) (call : CallF) (k : Nat) (v0 v1 v2 v3 : PV) (v4 : List PV) (v5 v6 v7 v8 v9 : PV) (v10 : List PV) : R := G 6 (regAt Try.prog call 7 [.b, .b, .b, .a]) (SJ7_6 v0 v1 v2 v3 v4 v5 v6 v7 v8 v9 v10) (behind Try.prog H0 G call k 7 [.b, .b, .b, .a] .normal)
def SJ7_3 (v0 v1 v2 v3 v4 v5 v6 v7 v8 v9 v10 v11 v12 v13 v14 v15 : PV) (v16 : List PV) (v17 v18 v19 v20 v21 : PV) (v22 : List PV) : St := [dd, AV.o (AO.pv (Ty.sl 3) v0), AV.o (AO.box 27 [AO.pv Ty.str v1, AO.pv Ty.str v2, AO.pv (Ty.int IntKind.i64) v3, AO.pv (Ty.int IntKind.i64) v4, AO.pv (Ty.sl 38) v5, AO.pv Ty.str v6, AO.pv (Ty.int IntKind.i64) v7, AO.pv (Ty.int IntKind.i64) v8, AO.pv Ty.str v9, AO.pv Ty.str v10, AO.pv (Ty.sl 27) v11]), dd, AV.o (AO.box 27 [AO.pv Ty.str v12, AO.pv Ty.str v13, AO.pv (Ty.int IntKind.i64) v14, AO.pv (Ty.int IntKind.i64) v15, AO.arr 38 v16, AO.pv Ty.str v17, AO.pv (Ty.int IntKind.i64) v18, AO.pv (Ty.int IntKind.i64) v19, AO.pv Ty.str v20, AO.pv Ty.str v21, AO.arr 27 v22]), dd, dd, dd, dd, dd, dd, dd, dd, dd, dd, dd, dd, dd, dd, dd, dd, dd, dd, dd, dd, dd, dd, dd, dd, dd, dd, dd, dd, dd]
noncomputable def J7_3 (G : Gate) (call : CallF) (k : Nat) (v0 v1 v2 v3 v4 v5 v6 v7 v8 v9 v10 v11 v12 v13 v14 v15 : PV) (v16 : List PV) (v17 v18 v19 v20 v21 : PV) (v22 : List PV) : R := G 3 (regAt Try.prog call 7 [.b, .b, .a, .a]) (SJ7_3 v0 v1 v2 v3 v4 v5 v6 v7 v8 v9 v10 v11 v12 v13 v14 v15 v16 v17 v18 v19 v20 v21 v22) (behind Try.prog H0 G call k 7 [.b, .b, .a, .a] .normal)
theorem J7_5_eq (call : CallF) (k : Nat) (v0 v1 v2 v3 v4 v5 v6 v7 v8 v9 v10 v11 v12 v13 v14 v15 : PV) (v16 : List PV) (v17 v18 v19 v20 v21 : PV) (v22 : List PV) (v23 v24 v25 v26 v27 : PV) : J7_5 gate1 call k v0 v1 v2 v3 v4 v5 v6 v7 v8 v9 v10 v11 v12 v13 v14 v15 v16 v17 v18 v19 v20 v21 v22 v23 v24 v25 v26 v27 =
  bif leI (0) (v23.toInt) && ltI (v23.toInt) ((Nat.cast v11.toList.length : Int)) then
    bif (Try.prog.info? 3).isSome && (leI (0) (1) && (leI (1) ((Nat.cast v0.toList.length : Int)) && leI ((Nat.cast v0.toList.length : Int)) ((Nat.cast v0.toList.length : Int)))) then
      let c0 := call 7 [AO.pv (Ty.st 27) (nth default v11.toList v23.toInt.toNat), AO.pv (Ty.sl 3) (PV.sl (List.drop 1 (List.take ((Nat.cast v0.toList.length : Int)).toNat v0.toList)))]
      bif !Nat.beq 2 1 && okMany (List.map (tyOf Try.prog) #[27, 31].toList) c0 then
        some ([AO.pv (Ty.st 27) (PV.agg [(resAt 0 c0).cell 0, (resAt 0 c0).cell 1, (resAt 0 c0).cell 2, (resAt 0 c0).cell 3, (resAt 0 c0).cell 4, (resAt 0 c0).cell 5, (resAt 0 c0).cell 6, (resAt 0 c0).cell 7, (resAt 0 c0).cell 8, (resAt 0 c0).cell 9, (resAt 0 c0).cell 10]), AO.pv (Ty.int IntKind.i64) (resAt 1 c0)], [])
      else
        none
    else
      none
  else
    none := by rw [J7_5, gate1_app]; kernel_rfl
theorem J7_6_eq (call : CallF) (k : Nat) (v0 v1 v2 v3 : PV) (v4 : List PV) (v5 v6 v7 v8 v9 : PV) (v10 : List PV) : J7_6 gate1 call k v0 v1 v2 v3 v4 v5 v6 v7 v8 v9 v10 =
  some ([AO.pv (Ty.st 27) (PV.agg [PV.str (ByteArray.mk #[]), PV.str (ByteArray.mk #[]), PV.int IntKind.i64 0, PV.int IntKind.i64 0, PV.sl [], PV.str (ByteArray.mk #[]), PV.int IntKind.i64 0, PV.int IntKind.i64 0, PV.str (ByteArray.mk #[]), PV.str (ByteArray.mk #[]), PV.sl []]), AO.pv (Ty.int IntKind.i64) (PV.int IntKind.i64 2)], []) := by rw [J7_6, gate1_app]; kernel_rfl
theorem J7_3_eq (call : CallF) (k : Nat) (v0 v1 v2 v3 v4 v5 v6 v7 v8 v9 v10 v11 v12 v13 v14 v15 : PV) (v16 : List PV) (v17 v18 v19 v20 v21 : PV) (v22 : List PV) : J7_3 gate1 call k v0 v1 v2 v3 v4 v5 v6 v7 v8 v9 v10 v11 v12 v13 v14 v15 v16 v17 v18 v19 v20 v21 v22 =
  bif leI (0) (0) && ltI (0) ((Nat.cast v0.toList.length : Int)) then
    bif leI (0) ((nth default v0.toList 0).toInt) then
      bif ltI ((nth default v0.toList 0).toInt) ((Nat.cast v11.toList.length : Int)) then
        J7_5 gate1 call k (v0) (v1) (v2) (v3) (v4) (v5) (v6) (v7) (v8) (v9) (v10) (v11) (v12) (v13) (v14) (v15) (v16) (v17) (v18) (v19) (v20) (v21) (v22) (nth default v0.toList 0) (v0) (nth default v0.toList 0) (nth default v0.toList 0) (PV.bool true)
      else
        J7_6 gate1 call k (v12) (v13) (v14) (v15) (v16) (v17) (v18) (v19) (v20) (v21) (v22)
    else
      J7_6 gate1 call k (v12) (v13) (v14) (v15) (v16) (v17) (v18) (v19) (v20) (v21) (v22)
  else
    none := by rw [J7_3, gate1_app]; kernel_rfl
theorem R7 (call : CallF) (k : Nat) (x0 x1 : PV) : evStep Try.prog H0 call k 7 [AO.pv (Ty.st 27) x0, AO.pv (Ty.sl 3) x1] =
  bif eqI ((Nat.cast x1.toList.length : Int)) (0) then
    some ([AO.pv (Ty.st 27) (PV.agg [x0.cell 0, x0.cell 1, x0.cell 2, x0.cell 3, x0.cell 4, x0.cell 5, x0.cell 6, x0.cell 7, x0.cell 8, x0.cell 9, x0.cell 10]), AO.pv (Ty.int IntKind.i64) (PV.int IntKind.i64 0)], [])
  else
    J7_3 gate1 call k (x1) (x0.cell 0) (x0.cell 1) (x0.cell 2) (x0.cell 3) (x0.cell 4) (x0.cell 5) (x0.cell 6) (x0.cell 7) (x0.cell 8) (x0.cell 9) (x0.cell 10) (PV.str (ByteArray.mk #[])) (PV.str (ByteArray.mk #[])) (PV.int IntKind.i64 0) (PV.int IntKind.i64 0) ([]) (PV.str (ByteArray.mk #[])) (PV.int IntKind.i64 0) (PV.int IntKind.i64 0) (PV.str (ByteArray.mk #[])) (PV.str (ByteArray.mk #[])) ([]) := by rw [evStep_eq]; kernel_rfl
def SJ8_5 (v0 v1 v2 v3 v4 v5 v6 v7 v8 v9 v10 v11 v12 v13 v14 : PV) (v15 : List PV) (v16 v17 v18 v19 v20 : PV) (v21 : List PV) (v22 v23 v24 v25 v26 v27 v28 : PV) : St := [dd, dd, AV.o (AO.box 27 [AO.pv Ty.str v0, AO.pv Ty.str v1, AO.pv (Ty.int IntKind.i64) v2, AO.pv (Ty.int IntKind.i64) v3, AO.pv (Ty.sl 38) v4, AO.pv Ty.str v5, AO.pv (Ty.int IntKind.i64) v6, AO.pv (Ty.int IntKind.i64) v7, AO.pv Ty.str v8, AO.pv Ty.str v9, AO.pv (Ty.sl 27) v10]), dd, AV.o (AO.box 27 [AO.pv Ty.str v11, AO.pv Ty.str v12, AO.pv (Ty.int IntKind.i64) v13, AO.pv (Ty.int IntKind.i64) v14, AO.arr 38 v15, AO.pv Ty.str v16, AO.pv (Ty.int IntKind.i64) v17, AO.pv (Ty.int IntKind.i64) v18, AO.pv Ty.str v19, AO.pv Ty.str v20, AO.arr 27 v21]), dd, dd, AV.o (AO.pv (Ty.int IntKind.i64) v22), AV.o (AO.pv (Ty.sl 3) v23), AV.o (AO.pv (Ty.int IntKind.i64) v24), AV.o (AO.pv (Ty.int IntKind.i64) v25), dd, AV.ip 3 v26 0, AV.o (AO.pv (Ty.int IntKind.i64) v27), dd, dd, dd, dd, dd, dd, dd, dd, AV.o (AO.pv Ty.bool v28), dd, dd, dd, dd, dd, dd, dd, dd, dd]
noncomputable def J8_5 (G : Gate) (call : CallF) (k n : Nat) (v0 v1 v2 v3 v4 v5 v6 v7 v8 v9 v10 v11 v12 v13 v14 : PV) (v15 : List PV) (v16 v17 v18 v19 v20 : PV) (v21 : List PV) (v22 v23 v24 v25 v26 v27 v28 : PV) : R := G 5 (regAt Try.prog call 8 [.b, .a, .b, .blk, .lp n, .b, .b, .a, .blk, .b, .a, .b, .x, .a]) (SJ8_5 v0 v1 v2 v3 v4 v5 v6 v7 v8 v9 v10 v11 v12 v13 v14 v15 v16 v17 v18 v19 v20 v21 v22 v23 v24 v25 v26 v27 v28) (behind Try.prog H0 G call k 8 [.b, .a, .b, .blk, .lp n, .b, .b, .a, .blk, .b, .a, .b, .x, .a] .normal)
def SJ8_7 (v0 v1 v2 v3 v4 v5 v6 v7 v8 v9 v10 v11 v12 v13 v14 : PV) (v15 : List PV) (v16 v17 v18 v19 v20 : PV) (v21 : List PV) (v22 v23 v24 : PV) : St := [dd, dd, AV.o (AO.box 27 [AO.pv Ty.str v0, AO.pv Ty.str v1, AO.pv (Ty.int IntKind.i64) v2, AO.pv (Ty.int IntKind.i64) v3, AO.pv (Ty.sl 38) v4, AO.pv Ty.str v5, AO.pv (Ty.int IntKind.i64) v6, AO.pv (Ty.int IntKind.i64) v7, AO.pv Ty.str v8, AO.pv Ty.str v9, AO.pv (Ty.sl 27) v10]), dd, AV.o (AO.box 27 [AO.pv Ty.str v11, AO.pv Ty.str v12, AO.pv (Ty.int IntKind.i64) v13, AO.pv (Ty.int IntKind.i64) v14, AO.arr 38 v15, AO.pv Ty.str v16, AO.pv (Ty.int IntKind.i64) v17, AO.pv (Ty.int IntKind.i64) v18, AO.pv Ty.str v19, AO.pv Ty.str v20, AO.arr 27 v21]), dd, dd, dd, AV.o (AO.pv (Ty.sl 3) v22), AV.o (AO.pv (Ty.int IntKind.i64) v23), AV.o (AO.pv (Ty.int IntKind.i64) v24), dd, dd, dd, dd, dd, dd, dd, dd, dd, dd, dd, dd, dd, dd, dd, dd, dd, dd, dd, dd, dd]
noncomputable def J8_7 (G : Gate) (call : CallF) (k n : Nat) (v0 v1 v2 v3 v4 v5 v6 v7 v8 v9 v10 v11 v12 v13 v14 : PV) (v15 : List PV) (v16 v17 v18 v19 v20 : PV) (v21 : List PV) (v22 v23 v24 : PV) : R := G 7 (regAt Try.prog call 8 [.b, .a, .b, .blk, .lp n, .b, .b, .b]) (SJ8_7 v0 v1 v2 v3 v4 v5 v6 v7 v8 v9 v10 v11 v12 v13 v14 v15 v16 v17 v18 v19 v20 v21 v22 v23 v24) (behind Try.prog H0 G call k 8 [.b, .a, .b, .blk, .lp n, .b, .b, .b] .normal)
def SJ8_6 (v0 v1 v2 v3 v4 v5 v6 v7 v8 v9 v10 v11 v12 v13 v14 : PV) (v15 : List PV) (v16 v17 v18 v19 v20 : PV) (v21 : List PV) (v22 v23 v24 v25 v26 v27 : PV) : St := [dd, dd, AV.o (AO.box 27 [AO.pv Ty.str v0, AO.pv Ty.str v1, AO.pv (Ty.int IntKind.i64) v2, AO.pv (Ty.int IntKind.i64) v3, AO.pv (Ty.sl 38) v4, AO.pv Ty.str v5, AO.pv (Ty.int IntKind.i64) v6, AO.pv (Ty.int IntKind.i64) v7, AO.pv Ty.str v8, AO.pv Ty.str v9, AO.pv (Ty.sl 27) v10]), dd, AV.o (AO.box 27 [AO.pv Ty.str v11, AO.pv Ty.str v12, AO.pv (Ty.int IntKind.i64) v13, AO.pv (Ty.int IntKind.i64) v14, AO.arr 38 v15, AO.pv Ty.str v16, AO.pv (Ty.int IntKind.i64) v17, AO.pv (Ty.int IntKind.i64) v18, AO.pv Ty.str v19, AO.pv Ty.str v20, AO.arr 27 v21]), dd, dd, AV.o (AO.pv (Ty.int IntKind.i64) v22), AV.o (AO.pv (Ty.sl 3) v23), AV.o (AO.pv (Ty.int IntKind.i64) v24), AV.o (AO.pv (Ty.int IntKind.i64) v25), dd, AV.ip 3 v26 0, AV.o (AO.pv (Ty.int IntKind.i64) v27), dd, dd, dd, dd, dd, dd, dd, dd, dd, dd, dd, dd, dd, dd, dd, dd, dd, dd]
noncomputable def J8_6 (G : Gate) (call : CallF) (k n : Nat) (v0 v1 v2 v3 v4 v5 v6 v7 v8 v9 v10 v11 v12 v13 v14 : PV) (v15 : List PV) (v16 v17 v18 v19 v20 : PV) (v21 : List PV) (v22 v23 v24 v25 v26 v27 : PV) : R := G 6 (regAt Try.prog call 8 [.b, .a, .b, .blk, .lp n, .b, .b, .a, .blk, .b, .b]) (SJ8_6 v0 v1 v2 v3 v4 v5 v6 v7 v8 v9 v10 v11 v12 v13 v14 v15 v16 v17 v18 v19 v20 v21 v22 v23 v24 v25 v26 v27) (behind Try.prog H0 G call k 8 [.b, .a, .b, .blk, .lp n, .b, .b, .a, .blk, .b, .b] .normal)
def SJ8_3 (v0 v1 v2 v3 v4 v5 v6 v7 v8 v9 v10 v11 v12 v13 v14 : PV) (v15 : List PV) (v16 v17 v18 v19 v20 : PV) (v21 : List PV) (v22 v23 v24 : PV) : St := [dd, dd, AV.o (AO.box 27 [AO.pv Ty.str v0, AO.pv Ty.str v1, AO.pv (Ty.int IntKind.i64) v2, AO.pv (Ty.int IntKind.i64) v3, AO.pv (Ty.sl 38) v4, AO.pv Ty.str v5, AO.pv (Ty.int IntKind.i64) v6, AO.pv (Ty.int IntKind.i64) v7, AO.pv Ty.str v8, AO.pv Ty.str v9, AO.pv (Ty.sl 27) v10]), dd, AV.o (AO.box 27 [AO.pv Ty.str v11, AO.pv Ty.str v12, AO.pv (Ty.int IntKind.i64) v13, AO.pv (Ty.int IntKind.i64) v14, AO.arr 38 v15, AO.pv Ty.str v16, AO.pv (Ty.int IntKind.i64) v17, AO.pv (Ty.int IntKind.i64) v18, AO.pv Ty.str v19, AO.pv Ty.str v20, AO.arr 27 v21]), dd, dd, dd, AV.o (AO.pv (Ty.sl 3) v22), AV.o (AO.pv (Ty.int IntKind.i64) v23), AV.o (AO.pv (Ty.int IntKind.i64) v24), dd, dd, dd, dd, dd, dd, dd, dd, dd, dd, dd, dd, dd, dd, dd, dd, dd, dd, dd, dd, dd]
noncomputable def J8_3 (G : Gate) (call : CallF) (k n : Nat) (v0 v1 v2 v3 v4 v5 v6 v7 v8 v9 v10 v11 v12 v13 v14 : PV) (v15 : List PV) (v16 v17 v18 v19 v20 : PV) (v21 : List PV) (v22 v23 v24 : PV) : R := G 3 (regAt Try.prog call 8 [.b, .a, .b, .blk, .lp n, .b, .b, .a, .blk, .a]) (SJ8_3 v0 v1 v2 v3 v4 v5 v6 v7 v8 v9 v10 v11 v12 v13 v14 v15 v16 v17 v18 v19 v20 v21 v22 v23 v24) (behind Try.prog H0 G call k 8 [.b, .a, .b, .blk, .lp n, .b, .b, .a, .blk, .a] .normal)
def SJ8_8 (v0 v1 v2 v3 v4 v5 v6 v7 v8 v9 v10 v11 v12 v13 v14 : PV) (v15 : List PV) (v16 v17 v18 v19 v20 : PV) (v21 : List PV) : St := [dd, dd, AV.o (AO.box 27 [AO.pv Ty.str v0, AO.pv Ty.str v1, AO.pv (Ty.int IntKind.i64) v2, AO.pv (Ty.int IntKind.i64) v3, AO.pv (Ty.sl 38) v4, AO.pv Ty.str v5, AO.pv (Ty.int IntKind.i64) v6, AO.pv (Ty.int IntKind.i64) v7, AO.pv Ty.str v8, AO.pv Ty.str v9, AO.pv (Ty.sl 27) v10]), dd, AV.o (AO.box 27 [AO.pv Ty.str v11, AO.pv Ty.str v12, AO.pv (Ty.int IntKind.i64) v13, AO.pv (Ty.int IntKind.i64) v14, AO.arr 38 v15, AO.pv Ty.str v16, AO.pv (Ty.int IntKind.i64) v17, AO.pv (Ty.int IntKind.i64) v18, AO.pv Ty.str v19, AO.pv Ty.str v20, AO.arr 27 v21]), dd, dd, dd, dd, dd, dd, dd, dd, dd, dd, dd, dd, dd, dd, dd, dd, dd, dd, dd, dd, dd, dd, dd, dd, dd, dd, dd]
noncomputable def J8_8 (G : Gate) (call : CallF) (k : Nat) (v0 v1 v2 v3 v4 v5 v6 v7 v8 v9 v10 v11 v12 v13 v14 : PV) (v15 : List PV) (v16 v17 v18 v19 v20 : PV) (v21 : List PV) : R := G 8 (regAt Try.prog call 8 [.b, .b, .a]) (SJ8_8 v0 v1 v2 v3 v4 v5 v6 v7 v8 v9 v10 v11 v12 v13 v14 v15 v16 v17 v18 v19 v20 v21) (behind Try.prog H0 G call k 8 [.b, .b, .a] .normal)
def S8_2 (v0 v1 v2 v3 v4 v5 v6 v7 v8 v9 v10 v11 v12 v13 v14 : PV) (v15 : List PV) (v16 v17 v18 v19 v20 : PV) (v21 : List PV) (v22 v23 v24 : PV) : St := [dd, dd, AV.o (AO.box 27 [AO.pv Ty.str v0, AO.pv Ty.str v1, AO.pv (Ty.int IntKind.i64) v2, AO.pv (Ty.int IntKind.i64) v3, AO.pv (Ty.sl 38) v4, AO.pv Ty.str v5, AO.pv (Ty.int IntKind.i64) v6, AO.pv (Ty.int IntKind.i64) v7, AO.pv Ty.str v8, AO.pv Ty.str v9, AO.pv (Ty.sl 27) v10]), dd, AV.o (AO.box 27 [AO.pv Ty.str v11, AO.pv Ty.str v12, AO.pv (Ty.int IntKind.i64) v13, AO.pv (Ty.int IntKind.i64) v14, AO.arr 38 v15, AO.pv Ty.str v16, AO.pv (Ty.int IntKind.i64) v17, AO.pv (Ty.int IntKind.i64) v18, AO.pv Ty.str v19, AO.pv Ty.str v20, AO.arr 27 v21]), dd, dd, dd, AV.o (AO.pv (Ty.sl 3) v22), AV.o (AO.pv (Ty.int IntKind.i64) v23), AV.o (AO.pv (Ty.int IntKind.i64) v24), dd, dd, dd, dd, dd, dd, dd, dd, dd, dd, dd, dd, dd, dd, dd, dd, dd, dd, dd, dd, dd]
noncomputable def L8_2 (G : Gate) (call : CallF) (k n : Nat) (v0 v1 v2 v3 v4 v5 v6 v7 v8 v9 v10 v11 v12 v13 v14 : PV) (v15 : List PV) (v16 v17 v18 v19 v20 : PV) (v21 : List PV) (v22 v23 v24 : PV) : R := loopAt Try.prog H0 G call k 8 [.b, .a, .b, .blk] n (S8_2 v0 v1 v2 v3 v4 v5 v6 v7 v8 v9 v10 v11 v12 v13 v14 v15 v16 v17 v18 v19 v20 v21 v22 v23 v24) (behind Try.prog H0 G call k 8 [.b, .a, .b, .blk])
theorem J8_5_eq (call : CallF) (k n : Nat) (v0 v1 v2 v3 v4 v5 v6 v7 v8 v9 v10 v11 v12 v13 v14 : PV) (v15 : List PV) (v16 v17 v18 v19 v20 : PV) (v21 : List PV) (v22 v23 v24 v25 v26 v27 v28 : PV) : J8_5 gate1 call k n v0 v1 v2 v3 v4 v5 v6 v7 v8 v9 v10 v11 v12 v13 v14 v15 v16 v17 v18 v19 v20 v21 v22 v23 v24 v25 v26 v27 v28 =
  some ([AO.pv (Ty.st 27) (PV.agg [PV.str (ByteArray.mk #[]), PV.str (ByteArray.mk #[]), PV.int IntKind.i64 0, PV.int IntKind.i64 0, PV.sl [], PV.str (ByteArray.mk #[]), PV.int IntKind.i64 0, PV.int IntKind.i64 0, PV.str (ByteArray.mk #[]), PV.str (ByteArray.mk #[]), PV.sl []]), AO.pv (Ty.int IntKind.i64) (PV.int IntKind.i64 2)], []) := by rw [J8_5, gate1_app]; kernel_rfl
theorem J8_7_eq (call : CallF) (k n : Nat) (v0 v1 v2 v3 v4 v5 v6 v7 v8 v9 v10 v11 v12 v13 v14 : PV) (v15 : List PV) (v16 v17 v18 v19 v20 : PV) (v21 : List PV) (v22 v23 v24 : PV) : J8_7 gate1 call k n v0 v1 v2 v3 v4 v5 v6 v7 v8 v9 v10 v11 v12 v13 v14 v15 v16 v17 v18 v19 v20 v21 v22 v23 v24 =
  L8_2 gate1 call k n (v0) (v1) (v2) (v3) (v4) (v5) (v6) (v7) (v8) (v9) (v10) (v11) (v12) (v13) (v14) (v15) (v16) (v17) (v18) (v19) (v20) (v21) (v22) (v23) (PV.int IntKind.i64 (IntKind.i64.wrap (v24.toInt + 1))) := by rw [J8_7, gate1_app]; kernel_rfl
theorem J8_6_eq (call : CallF) (k n : Nat) (v0 v1 v2 v3 v4 v5 v6 v7 v8 v9 v10 v11 v12 v13 v14 : PV) (v15 : List PV) (v16 v17 v18 v19 v20 : PV) (v21 : List PV) (v22 v23 v24 v25 v26 v27 : PV) : J8_6 gate1 call k n v0 v1 v2 v3 v4 v5 v6 v7 v8 v9 v10 v11 v12 v13 v14 v15 v16 v17 v18 v19 v20 v21 v22 v23 v24 v25 v26 v27 =
  bif leI (0) (v22.toInt) && ltI (v22.toInt) ((Nat.cast v10.toList.length : Int)) then
    J8_7 gate1 call k n ((nth default v10.toList v22.toInt.toNat).cell 0) ((nth default v10.toList v22.toInt.toNat).cell 1) ((nth default v10.toList v22.toInt.toNat).cell 2) ((nth default v10.toList v22.toInt.toNat).cell 3) ((nth default v10.toList v22.toInt.toNat).cell 4) ((nth default v10.toList v22.toInt.toNat).cell 5) ((nth default v10.toList v22.toInt.toNat).cell 6) ((nth default v10.toList v22.toInt.toNat).cell 7) ((nth default v10.toList v22.toInt.toNat).cell 8) ((nth default v10.toList v22.toInt.toNat).cell 9) ((nth default v10.toList v22.toInt.toNat).cell 10) (v11) (v12) (v13) (v14) (v15) (v16) (v17) (v18) (v19) (v20) (v21) (v23) (v24) (v25)
  else
    none := by rw [J8_6, gate1_app]; kernel_rfl
theorem J8_3_eq (call : CallF) (k n : Nat) (v0 v1 v2 v3 v4 v5 v6 v7 v8 v9 v10 v11 v12 v13 v14 : PV) (v15 : List PV) (v16 v17 v18 v19 v20 : PV) (v21 : List PV) (v22 v23 v24 : PV) : J8_3 gate1 call k n v0 v1 v2 v3 v4 v5 v6 v7 v8 v9 v10 v11 v12 v13 v14 v15 v16 v17 v18 v19 v20 v21 v22 v23 v24 =
  bif leI (0) (v24.toInt) && ltI (v24.toInt) ((Nat.cast v22.toList.length : Int)) then
    bif ltI ((nth default v22.toList v24.toInt.toNat).toInt) (0) then
      J8_5 gate1 call k n (v0) (v1) (v2) (v3) (v4) (v5) (v6) (v7) (v8) (v9) (v10) (v11) (v12) (v13) (v14) (v15) (v16) (v17) (v18) (v19) (v20) (v21) (nth default v22.toList v24.toInt.toNat) (v22) (v23) (v24) (nth default v22.toList v24.toInt.toNat) (nth default v22.toList v24.toInt.toNat) (PV.bool true)
    else
      bif leI ((Nat.cast v10.toList.length : Int)) ((nth default v22.toList v24.toInt.toNat).toInt) then
        J8_5 gate1 call k n (v0) (v1) (v2) (v3) (v4) (v5) (v6) (v7) (v8) (v9) (v10) (v11) (v12) (v13) (v14) (v15) (v16) (v17) (v18) (v19) (v20) (v21) (nth default v22.toList v24.toInt.toNat) (v22) (v23) (v24) (nth default v22.toList v24.toInt.toNat) (nth default v22.toList v24.toInt.toNat) (PV.bool true)
      else
        J8_6 gate1 call k n (v0) (v1) (v2) (v3) (v4) (v5) (v6) (v7) (v8) (v9) (v10) (v11) (v12) (v13) (v14) (v15) (v16) (v17) (v18) (v19) (v20) (v21) (nth default v22.toList v24.toInt.toNat) (v22) (v23) (v24) (nth default v22.toList v24.toInt.toNat) (nth default v22.toList v24.toInt.toNat)
  else
    none := by rw [J8_3, gate1_app]; kernel_rfl
theorem J8_8_eq (call : CallF) (k : Nat) (v0 v1 v2 v3 v4 v5 v6 v7 v8 v9 v10 v11 v12 v13 v14 : PV) (v15 : List PV) (v16 v17 v18 v19 v20 : PV) (v21 : List PV) : J8_8 gate1 call k v0 v1 v2 v3 v4 v5 v6 v7 v8 v9 v10 v11 v12 v13 v14 v15 v16 v17 v18 v19 v20 v21 =
  let c0 := call 29 [AO.pv (Ty.st 27) (PV.agg [v0, v1, v2, v3, v4, v5, v6, v7, v8, v9, v10])]
  bif okRes (Ty.st 27) c0 then
    some ([AO.pv (Ty.st 27) (PV.agg [(resPV c0).cell 0, (resPV c0).cell 1, (resPV c0).cell 2, (resPV c0).cell 3, (resPV c0).cell 4, (resPV c0).cell 5, (resPV c0).cell 6, (resPV c0).cell 7, (resPV c0).cell 8, (resPV c0).cell 9, (resPV c0).cell 10]), AO.pv (Ty.int IntKind.i64) (PV.int IntKind.i64 0)], [])
  else
    none := by rw [J8_8, gate1_app]; kernel_rfl
theorem L8_2_succ (G : Gate) (call : CallF) (k n : Nat) (v0 v1 v2 v3 v4 v5 v6 v7 v8 v9 v10 v11 v12 v13 v14 : PV) (v15 : List PV) (v16 v17 v18 v19 v20 : PV) (v21 : List PV) (v22 v23 v24 : PV) : L8_2 G call k (n + 1) v0 v1 v2 v3 v4 v5 v6 v7 v8 v9 v10 v11 v12 v13 v14 v15 v16 v17 v18 v19 v20 v21 v22 v23 v24 =
  bif ltI (v24.toInt) (v23.toInt) then
    J8_3 G call k n (v0) (v1) (v2) (v3) (v4) (v5) (v6) (v7) (v8) (v9) (v10) (v11) (v12) (v13) (v14) (v15) (v16) (v17) (v18) (v19) (v20) (v21) (v22) (v23) (v24)
  else
  J8_8 G call k (v0) (v1) (v2) (v3) (v4) (v5) (v6) (v7) (v8) (v9) (v10) (v11) (v12) (v13) (v14) (v15) (v16) (v17) (v18) (v19) (v20) (v21) := by kernel_rfl
theorem R8 (call : CallF) (k : Nat) (x0 x1 : PV) : evStep Try.prog H0 call k 8 [AO.pv (Ty.st 27) x0, AO.pv (Ty.sl 3) x1] =
  L8_2 gate1 call k k (x0.cell 0) (x0.cell 1) (x0.cell 2) (x0.cell 3) (x0.cell 4) (x0.cell 5) (x0.cell 6) (x0.cell 7) (x0.cell 8) (x0.cell 9) (x0.cell 10) (PV.str (ByteArray.mk #[])) (PV.str (ByteArray.mk #[])) (PV.int IntKind.i64 0) (PV.int IntKind.i64 0) ([]) (PV.str (ByteArray.mk #[])) (PV.int IntKind.i64 0) (PV.int IntKind.i64 0) (PV.str (ByteArray.mk #[])) (PV.str (ByteArray.mk #[])) ([]) (x1) (PV.int IntKind.i64 (Nat.cast x1.toList.length : Int)) (PV.int IntKind.i64 0) := by rw [evStep_eq]; kernel_rfl
def SJ11_2 (v0 v1 v2 v3 v4 v5 v6 v7 v8 v9 v10 v11 v12 v13 v14 v15 v16 v17 v18 v19 v20 v21 v22 : PV) : St := [dd, dd, AV.o (AO.box 27 [AO.pv Ty.str v0, AO.pv Ty.str v1, AO.pv (Ty.int IntKind.i64) v2, AO.pv (Ty.int IntKind.i64) v3, AO.pv (Ty.sl 38) v4, AO.pv Ty.str v5, AO.pv (Ty.int IntKind.i64) v6, AO.pv (Ty.int IntKind.i64) v7, AO.pv Ty.str v8, AO.pv Ty.str v9, AO.pv (Ty.sl 27) v10]), AV.o (AO.box 27 [AO.pv Ty.str v11, AO.pv Ty.str v12, AO.pv (Ty.int IntKind.i64) v13, AO.pv (Ty.int IntKind.i64) v14, AO.pv (Ty.sl 38) v15, AO.pv Ty.str v16, AO.pv (Ty.int IntKind.i64) v17, AO.pv (Ty.int IntKind.i64) v18, AO.pv Ty.str v19, AO.pv Ty.str v20, AO.pv (Ty.sl 27) v21]), dd, dd, dd, dd, dd, dd, dd, dd, dd, dd, dd, dd, dd, dd, dd, dd, dd, dd, dd, dd, dd, dd, dd, dd, dd, dd, dd, dd, dd, dd, dd, dd, dd, dd, dd, dd, dd, dd, dd, dd, dd, dd, dd, dd, dd, dd, dd, dd, dd, dd, dd, AV.o (AO.pv Ty.bool v22), dd, dd, dd, dd, dd, dd, dd, dd, dd, dd, dd, dd, dd, dd, dd, dd, dd, dd, dd]
noncomputable def J11_2 (G : Gate) (call : CallF) (k : Nat) (v0 v1 v2 v3 v4 v5 v6 v7 v8 v9 v10 v11 v12 v13 v14 v15 v16 v17 v18 v19 v20 v21 v22 : PV) : R := G 2 (regAt Try.prog call 11 [.b, .a, .b, .x, .a]) (SJ11_2 v0 v1 v2 v3 v4 v5 v6 v7 v8 v9 v10 v11 v12 v13 v14 v15 v16 v17 v18 v19 v20 v21 v22) (behind Try.prog H0 G call k 11 [.b, .a, .b, .x, .a] .normal)
def SJ11_5 (v0 v1 v2 v3 v4 v5 v6 v7 v8 v9 v10 v11 v12 v13 v14 v15 v16 v17 v18 v19 v20 v21 v22 : PV) : St := [dd, dd, AV.o (AO.box 27 [AO.pv Ty.str v0, AO.pv Ty.str v1, AO.pv (Ty.int IntKind.i64) v2, AO.pv (Ty.int IntKind.i64) v3, AO.pv (Ty.sl 38) v4, AO.pv Ty.str v5, AO.pv (Ty.int IntKind.i64) v6, AO.pv (Ty.int IntKind.i64) v7, AO.pv Ty.str v8, AO.pv Ty.str v9, AO.pv (Ty.sl 27) v10]), AV.o (AO.box 27 [AO.pv Ty.str v11, AO.pv Ty.str v12, AO.pv (Ty.int IntKind.i64) v13, AO.pv (Ty.int IntKind.i64) v14, AO.pv (Ty.sl 38) v15, AO.pv Ty.str v16, AO.pv (Ty.int IntKind.i64) v17, AO.pv (Ty.int IntKind.i64) v18, AO.pv Ty.str v19, AO.pv Ty.str v20, AO.pv (Ty.sl 27) v21]), dd, AV.o (AO.pv (Ty.int IntKind.i64) v22), dd, dd, dd, dd, dd, dd, dd, dd, dd, dd, dd, dd, dd, dd, dd, dd, dd, dd, dd, dd, dd, dd, dd, dd, dd, dd, dd, dd, dd, dd, dd, dd, dd, dd, dd, dd, dd, dd, dd, dd, dd, dd, dd, dd, dd, dd, dd, dd, dd, dd, dd, dd, dd, dd, dd, dd, dd, dd, dd, dd, dd, dd, dd, dd, dd, dd, dd, dd, dd]
noncomputable def J11_5 (G : Gate) (call : CallF) (k n : Nat) (v0 v1 v2 v3 v4 v5 v6 v7 v8 v9 v10 v11 v12 v13 v14 v15 v16 v17 v18 v19 v20 v21 v22 : PV) : R := G 5 (regAt Try.prog call 11 [.b, .b, .a, .b, .blk, .lp n, .b, .b]) (SJ11_5 v0 v1 v2 v3 v4 v5 v6 v7 v8 v9 v10 v11 v12 v13 v14 v15 v16 v17 v18 v19 v20 v21 v22) (behind Try.prog H0 G call k 11 [.b, .b, .a, .b, .blk, .lp n, .b, .b] .normal)
def SJ11_6 (v0 v1 v2 v3 v4 v5 v6 v7 v8 v9 v10 v11 v12 v13 v14 v15 v16 v17 v18 v19 v20 v21 v22 : PV) : St := [dd, dd, AV.o (AO.box 27 [AO.pv Ty.str v0, AO.pv Ty.str v1, AO.pv (Ty.int IntKind.i64) v2, AO.pv (Ty.int IntKind.i64) v3, AO.pv (Ty.sl 38) v4, AO.pv Ty.str v5, AO.pv (Ty.int IntKind.i64) v6, AO.pv (Ty.int IntKind.i64) v7, AO.pv Ty.str v8, AO.pv Ty.str v9, AO.pv (Ty.sl 27) v10]), AV.o (AO.box 27 [AO.pv Ty.str v11, AO.pv Ty.str v12, AO.pv (Ty.int IntKind.i64) v13, AO.pv (Ty.int IntKind.i64) v14, AO.pv (Ty.sl 38) v15, AO.pv Ty.str v16, AO.pv (Ty.int IntKind.i64) v17, AO.pv (Ty.int IntKind.i64) v18, AO.pv Ty.str v19, AO.pv Ty.str v20, AO.pv (Ty.sl 27) v21]), dd, AV.o (AO.pv (Ty.int IntKind.i64) v22), dd, dd, dd, dd, dd, dd, dd, dd, dd, dd, dd, dd, dd, dd, dd, dd, dd, dd, dd, dd, dd, dd, dd, dd, dd, dd, dd, dd, dd, dd, dd, dd, dd, dd, dd, dd, dd, dd, dd, dd, dd, dd, dd, dd, dd, dd, dd, dd, dd, dd, dd, dd, dd, dd, dd, dd, dd, dd, dd, dd, dd, dd, dd, dd, dd, dd, dd, dd, dd]
noncomputable def J11_6 (G : Gate) (call : CallF) (k n : Nat) (v0 v1 v2 v3 v4 v5 v6 v7 v8 v9 v10 v11 v12 v13 v14 v15 v16 v17 v18 v19 v20 v21 v22 : PV) : R := G 6 (regAt Try.prog call 11 [.b, .b, .a, .b, .blk, .lp n, .b, .a, .blk, .a]) (SJ11_6 v0 v1 v2 v3 v4 v5 v6 v7 v8 v9 v10 v11 v12 v13 v14 v15 v16 v17 v18 v19 v20 v21 v22) (behind Try.prog H0 G call k 11 [.b, .b, .a, .b, .blk, .lp n, .b, .a, .blk, .a] .normal)
def SJ11_8  : St := [dd, dd, dd, dd, dd, dd, dd, dd, dd, dd, dd, dd, dd, dd, dd, dd, dd, dd, dd, dd, dd, dd, dd, dd, dd, dd, dd, dd, dd, dd, dd, dd, dd, dd, dd, dd, dd, dd, dd, dd, dd, dd, dd, dd, dd, dd, dd, dd, dd, dd, dd, dd, dd, dd, dd, dd, dd, dd, dd, dd, dd, dd, dd, dd, dd, dd, dd, dd, dd, dd, dd, dd, dd, dd, dd]
noncomputable def J11_8 (G : Gate) (call : CallF) (k : Nat)  : R := G 8 (regAt Try.prog call 11 [.b, .b, .b, .a]) (SJ11_8 ) (behind Try.prog H0 G call k 11 [.b, .b, .b, .a] .normal)
def S11_4 (v0 v1 v2 v3 v4 v5 v6 v7 v8 v9 v10 v11 v12 v13 v14 v15 v16 v17 v18 v19 v20 v21 v22 : PV) : St := [dd, dd, AV.o (AO.box 27 [AO.pv Ty.str v0, AO.pv Ty.str v1, AO.pv (Ty.int IntKind.i64) v2, AO.pv (Ty.int IntKind.i64) v3, AO.pv (Ty.sl 38) v4, AO.pv Ty.str v5, AO.pv (Ty.int IntKind.i64) v6, AO.pv (Ty.int IntKind.i64) v7, AO.pv Ty.str v8, AO.pv Ty.str v9, AO.pv (Ty.sl 27) v10]), AV.o (AO.box 27 [AO.pv Ty.str v11, AO.pv Ty.str v12, AO.pv (Ty.int IntKind.i64) v13, AO.pv (Ty.int IntKind.i64) v14, AO.pv (Ty.sl 38) v15, AO.pv Ty.str v16, AO.pv (Ty.int IntKind.i64) v17, AO.pv (Ty.int IntKind.i64) v18, AO.pv Ty.str v19, AO.pv Ty.str v20, AO.pv (Ty.sl 27) v21]), dd, AV.o (AO.pv (Ty.int IntKind.i64) v22), dd, dd, dd, dd, dd, dd, dd, dd, dd, dd, dd, dd, dd, dd, dd, dd, dd, dd, dd, dd, dd, dd, dd, dd, dd, dd, dd, dd, dd, dd, dd, dd, dd, dd, dd, dd, dd, dd, dd, dd, dd, dd, dd, dd, dd, dd, dd, dd, dd, dd, dd, dd, dd, dd, dd, dd, dd, dd, dd, dd, dd, dd, dd, dd, dd, dd, dd, dd, dd]
noncomputable def L11_4 (G : Gate) (call : CallF) (k n : Nat) (v0 v1 v2 v3 v4 v5 v6 v7 v8 v9 v10 v11 v12 v13 v14 v15 v16 v17 v18 v19 v20 v21 v22 : PV) : R := loopAt Try.prog H0 G call k 11 [.b, .b, .a, .b, .blk] n (S11_4 v0 v1 v2 v3 v4 v5 v6 v7 v8 v9 v10 v11 v12 v13 v14 v15 v16 v17 v18 v19 v20 v21 v22) (behind Try.prog H0 G call k 11 [.b, .b, .a, .b, .blk])
def SJ11_3 (v0 v1 v2 v3 v4 v5 v6 v7 v8 v9 v10 v11 v12 v13 v14 v15 v16 v17 v18 v19 v20 v21 : PV) : St := [dd, dd, AV.o (AO.box 27 [AO.pv Ty.str v0, AO.pv Ty.str v1, AO.pv (Ty.int IntKind.i64) v2, AO.pv (Ty.int IntKind.i64) v3, AO.pv (Ty.sl 38) v4, AO.pv Ty.str v5, AO.pv (Ty.int IntKind.i64) v6, AO.pv (Ty.int IntKind.i64) v7, AO.pv Ty.str v8, AO.pv Ty.str v9, AO.pv (Ty.sl 27) v10]), AV.o (AO.box 27 [AO.pv Ty.str v11, AO.pv Ty.str v12, AO.pv (Ty.int IntKind.i64) v13, AO.pv (Ty.int IntKind.i64) v14, AO.pv (Ty.sl 38) v15, AO.pv Ty.str v16, AO.pv (Ty.int IntKind.i64) v17, AO.pv (Ty.int IntKind.i64) v18, AO.pv Ty.str v19, AO.pv Ty.str v20, AO.pv (Ty.sl 27) v21]), dd, dd, dd, dd, dd, dd, dd, dd, dd, dd, dd, dd, dd, dd, dd, dd, dd, dd, dd, dd, dd, dd, dd, dd, dd, dd, dd, dd, dd, dd, dd, dd, dd, dd, dd, dd, dd, dd, dd, dd, dd, dd, dd, dd, dd, dd, dd, dd, dd, dd, dd, dd, dd, dd, dd, dd, dd, dd, dd, dd, dd, dd, dd, dd, dd, dd, dd, dd, dd, dd, dd]
noncomputable def J11_3 (G : Gate) (call : CallF) (k : Nat) (v0 v1 v2 v3 v4 v5 v6 v7 v8 v9 v10 v11 v12 v13 v14 v15 v16 v17 v18 v19 v20 v21 : PV) : R := G 3 (regAt Try.prog call 11 [.b, .b, .a, .a]) (SJ11_3 v0 v1 v2 v3 v4 v5 v6 v7 v8 v9 v10 v11 v12 v13 v14 v15 v16 v17 v18 v19 v20 v21) (behind Try.prog H0 G call k 11 [.b, .b, .a, .a] .normal)
theorem J11_2_eq (call : CallF) (k : Nat) (v0 v1 v2 v3 v4 v5 v6 v7 v8 v9 v10 v11 v12 v13 v14 v15 v16 v17 v18 v19 v20 v21 v22 : PV) : J11_2 gate1 call k v0 v1 v2 v3 v4 v5 v6 v7 v8 v9 v10 v11 v12 v13 v14 v15 v16 v17 v18 v19 v20 v21 v22 =
  some ([AO.pv Ty.bool (PV.bool false)], []) := by rw [J11_2, gate1_app]; kernel_rfl
theorem J11_5_eq (call : CallF) (k n : Nat) (v0 v1 v2 v3 v4 v5 v6 v7 v8 v9 v10 v11 v12 v13 v14 v15 v16 v17 v18 v19 v20 v21 v22 : PV) : J11_5 gate1 call k n v0 v1 v2 v3 v4 v5 v6 v7 v8 v9 v10 v11 v12 v13 v14 v15 v16 v17 v18 v19 v20 v21 v22 =
  L11_4 gate1 call k n (v0) (v1) (v2) (v3) (v4) (v5) (v6) (v7) (v8) (v9) (v10) (v11) (v12) (v13) (v14) (v15) (v16) (v17) (v18) (v19) (v20) (v21) (PV.int IntKind.i64 (IntKind.i64.wrap (v22.toInt + 1))) := by rw [J11_5, gate1_app]; kernel_rfl
theorem J11_6_eq (call : CallF) (k n : Nat) (v0 v1 v2 v3 v4 v5 v6 v7 v8 v9 v10 v11 v12 v13 v14 v15 v16 v17 v18 v19 v20 v21 v22 : PV) : J11_6 gate1 call k n v0 v1 v2 v3 v4 v5 v6 v7 v8 v9 v10 v11 v12 v13 v14 v15 v16 v17 v18 v19 v20 v21 v22 =
  bif leI (0) (v22.toInt) && ltI (v22.toInt) ((Nat.cast v10.toList.length : Int)) then
    bif leI (0) (v22.toInt) && ltI (v22.toInt) ((Nat.cast v21.toList.length : Int)) then
      let c1 := call 11 [AO.pv (Ty.st 27) (nth default v10.toList v22.toInt.toNat), AO.pv (Ty.st 27) (nth default v21.toList v22.toInt.toNat)]
      bif okRes Ty.bool c1 then
        bif !(resPV c1).toBool then
  some ([AO.pv Ty.bool (PV.bool false)], [])
        else
          J11_5 gate1 call k n (v0) (v1) (v2) (v3) (v4) (v5) (v6) (v7) (v8) (v9) (v10) (v11) (v12) (v13) (v14) (v15) (v16) (v17) (v18) (v19) (v20) (v21) (v22)
      else
        none
    else
      none
  else
    none := by rw [J11_6, gate1_app]; kernel_rfl
theorem J11_8_eq (call : CallF) (k : Nat)  : J11_8 gate1 call k  =
  some ([AO.pv Ty.bool (PV.bool true)], []) := by rw [J11_8, gate1_app]; kernel_rfl
theorem L11_4_succ (G : Gate) (call : CallF) (k n : Nat) (v0 v1 v2 v3 v4 v5 v6 v7 v8 v9 v10 v11 v12 v13 v14 v15 v16 v17 v18 v19 v20 v21 v22 : PV) : L11_4 G call k (n + 1) v0 v1 v2 v3 v4 v5 v6 v7 v8 v9 v10 v11 v12 v13 v14 v15 v16 v17 v18 v19 v20 v21 v22 =
  bif ltI (v22.toInt) ((Nat.cast v10.toList.length : Int)) then
    J11_6 G call k n (v0) (v1) (v2) (v3) (v4) (v5) (v6) (v7) (v8) (v9) (v10) (v11) (v12) (v13) (v14) (v15) (v16) (v17) (v18) (v19) (v20) (v21) (v22)
  else
  J11_8 G call k  := by kernel_rfl
theorem J11_3_eq (call : CallF) (k : Nat) (v0 v1 v2 v3 v4 v5 v6 v7 v8 v9 v10 v11 v12 v13 v14 v15 v16 v17 v18 v19 v20 v21 : PV) : J11_3 gate1 call k v0 v1 v2 v3 v4 v5 v6 v7 v8 v9 v10 v11 v12 v13 v14 v15 v16 v17 v18 v19 v20 v21 =
  L11_4 gate1 call k k (v0) (v1) (v2) (v3) (v4) (v5) (v6) (v7) (v8) (v9) (v10) (v11) (v12) (v13) (v14) (v15) (v16) (v17) (v18) (v19) (v20) (v21) (PV.int IntKind.i64 0) := by rw [J11_3, gate1_app]; kernel_rfl
theorem R11 (call : CallF) (k : Nat) (x0 x1 : PV) : evStep Try.prog H0 call k 11 [AO.pv (Ty.st 27) x0, AO.pv (Ty.st 27) x1] =
  bif !(x0.cell 0).toStr.data.toList == (x1.cell 0).toStr.data.toList then
    J11_2 gate1 call k (x0.cell 0) (x0.cell 1) (x0.cell 2) (x0.cell 3) (x0.cell 4) (x0.cell 5) (x0.cell 6) (x0.cell 7) (x0.cell 8) (x0.cell 9) (x0.cell 10) (x1.cell 0) (x1.cell 1) (x1.cell 2) (x1.cell 3) (x1.cell 4) (x1.cell 5) (x1.cell 6) (x1.cell 7) (x1.cell 8) (x1.cell 9) (x1.cell 10) (PV.bool true)
  else
    bif !(x0.cell 1).toStr.data.toList == (x1.cell 1).toStr.data.toList then
      J11_2 gate1 call k (x0.cell 0) (x0.cell 1) (x0.cell 2) (x0.cell 3) (x0.cell 4) (x0.cell 5) (x0.cell 6) (x0.cell 7) (x0.cell 8) (x0.cell 9) (x0.cell 10) (x1.cell 0) (x1.cell 1) (x1.cell 2) (x1.cell 3) (x1.cell 4) (x1.cell 5) (x1.cell 6) (x1.cell 7) (x1.cell 8) (x1.cell 9) (x1.cell 10) (PV.bool true)
    else
      bif !eqI ((x0.cell 2).toInt) ((x1.cell 2).toInt) then
        J11_2 gate1 call k (x0.cell 0) (x0.cell 1) (x0.cell 2) (x0.cell 3) (x0.cell 4) (x0.cell 5) (x0.cell 6) (x0.cell 7) (x0.cell 8) (x0.cell 9) (x0.cell 10) (x1.cell 0) (x1.cell 1) (x1.cell 2) (x1.cell 3) (x1.cell 4) (x1.cell 5) (x1.cell 6) (x1.cell 7) (x1.cell 8) (x1.cell 9) (x1.cell 10) (PV.bool true)
      else
        bif !eqI ((x0.cell 3).toInt) ((x1.cell 3).toInt) then
          J11_2 gate1 call k (x0.cell 0) (x0.cell 1) (x0.cell 2) (x0.cell 3) (x0.cell 4) (x0.cell 5) (x0.cell 6) (x0.cell 7) (x0.cell 8) (x0.cell 9) (x0.cell 10) (x1.cell 0) (x1.cell 1) (x1.cell 2) (x1.cell 3) (x1.cell 4) (x1.cell 5) (x1.cell 6) (x1.cell 7) (x1.cell 8) (x1.cell 9) (x1.cell 10) (PV.bool true)
        else
          bif !((x0.cell 5).toStr.data.toList == (x1.cell 5).toStr.data.toList && (eqI ((x0.cell 6).toInt) ((x1.cell 6).toInt) && (eqI ((x0.cell 7).toInt) ((x1.cell 7).toInt) && ((x0.cell 8).toStr.data.toList == (x1.cell 8).toStr.data.toList && (x0.cell 9).toStr.data.toList == (x1.cell 9).toStr.data.toList)))) then
            J11_2 gate1 call k (x0.cell 0) (x0.cell 1) (x0.cell 2) (x0.cell 3) (x0.cell 4) (x0.cell 5) (x0.cell 6) (x0.cell 7) (x0.cell 8) (x0.cell 9) (x0.cell 10) (x1.cell 0) (x1.cell 1) (x1.cell 2) (x1.cell 3) (x1.cell 4) (x1.cell 5) (x1.cell 6) (x1.cell 7) (x1.cell 8) (x1.cell 9) (x1.cell 10) (PV.bool true)
          else
            let c0 := call 31 [AO.pv (Ty.sl 38) (x0.cell 4), AO.pv (Ty.sl 38) (x1.cell 4)]
            bif okRes Ty.bool c0 then
              bif !(resPV c0).toBool then
                J11_2 gate1 call k (x0.cell 0) (x0.cell 1) (x0.cell 2) (x0.cell 3) (x0.cell 4) (x0.cell 5) (x0.cell 6) (x0.cell 7) (x0.cell 8) (x0.cell 9) (x0.cell 10) (x1.cell 0) (x1.cell 1) (x1.cell 2) (x1.cell 3) (x1.cell 4) (x1.cell 5) (x1.cell 6) (x1.cell 7) (x1.cell 8) (x1.cell 9) (x1.cell 10) (PV.bool true)
              else
                bif !eqI ((Nat.cast (x0.cell 10).toList.length : Int)) ((Nat.cast (x1.cell 10).toList.length : Int)) then
                  J11_2 gate1 call k (x0.cell 0) (x0.cell 1) (x0.cell 2) (x0.cell 3) (x0.cell 4) (x0.cell 5) (x0.cell 6) (x0.cell 7) (x0.cell 8) (x0.cell 9) (x0.cell 10) (x1.cell 0) (x1.cell 1) (x1.cell 2) (x1.cell 3) (x1.cell 4) (x1.cell 5) (x1.cell 6) (x1.cell 7) (x1.cell 8) (x1.cell 9) (x1.cell 10) (PV.bool true)
                else
                  J11_3 gate1 call k (x0.cell 0) (x0.cell 1) (x0.cell 2) (x0.cell 3) (x0.cell 4) (x0.cell 5) (x0.cell 6) (x0.cell 7) (x0.cell 8) (x0.cell 9) (x0.cell 10) (x1.cell 0) (x1.cell 1) (x1.cell 2) (x1.cell 3) (x1.cell 4) (x1.cell 5) (x1.cell 6) (x1.cell 7) (x1.cell 8) (x1.cell 9) (x1.cell 10)
            else
              none := by rw [evStep_eq]; kernel_rfl
def SJ25_5 (v0 v1 v2 v3 v4 v5 v6 v7 v8 v9 v10 v11 v12 : PV) : St := [dd, AV.o (AO.box 27 [AO.pv Ty.str v0, AO.pv Ty.str v1, AO.pv (Ty.int IntKind.i64) v2, AO.pv (Ty.int IntKind.i64) v3, AO.pv (Ty.sl 38) v4, AO.pv Ty.str v5, AO.pv (Ty.int IntKind.i64) v6, AO.pv (Ty.int IntKind.i64) v7, AO.pv Ty.str v8, AO.pv Ty.str v9, AO.pv (Ty.sl 27) v10]), dd, AV.o (AO.pv (Ty.int IntKind.i64) v11), AV.o (AO.pv (Ty.int IntKind.i64) v12), dd, dd, dd, dd, dd, dd, dd, dd, dd, dd, dd, dd, dd, dd, dd, dd]
noncomputable def J25_5 (G : Gate) (call : CallF) (k n : Nat) (v0 v1 v2 v3 v4 v5 v6 v7 v8 v9 v10 v11 v12 : PV) : R := G 5 (regAt Try.prog call 25 [.b, .b, .a, .b, .blk, .lp n, .b, .a, .blk]) (SJ25_5 v0 v1 v2 v3 v4 v5 v6 v7 v8 v9 v10 v11 v12) (behind Try.prog H0 G call k 25 [.b, .b, .a, .b, .blk, .lp n, .b, .a, .blk] .normal)
def SJ25_6 (v0 : PV) : St := [dd, dd, dd, AV.o (AO.pv (Ty.int IntKind.i64) v0), dd, dd, dd, dd, dd, dd, dd, dd, dd, dd, dd, dd, dd, dd, dd, dd, dd]
noncomputable def J25_6 (G : Gate) (call : CallF) (k : Nat) (v0 : PV) : R := G 6 (regAt Try.prog call 25 [.b, .b, .b, .a]) (SJ25_6 v0) (behind Try.prog H0 G call k 25 [.b, .b, .b, .a] .normal)
def S25_3 (v0 v1 v2 v3 v4 v5 v6 v7 v8 v9 v10 v11 v12 : PV) : St := [dd, AV.o (AO.box 27 [AO.pv Ty.str v0, AO.pv Ty.str v1, AO.pv (Ty.int IntKind.i64) v2, AO.pv (Ty.int IntKind.i64) v3, AO.pv (Ty.sl 38) v4, AO.pv Ty.str v5, AO.pv (Ty.int IntKind.i64) v6, AO.pv (Ty.int IntKind.i64) v7, AO.pv Ty.str v8, AO.pv Ty.str v9, AO.pv (Ty.sl 27) v10]), dd, AV.o (AO.pv (Ty.int IntKind.i64) v11), AV.o (AO.pv (Ty.int IntKind.i64) v12), dd, dd, dd, dd, dd, dd, dd, dd, dd, dd, dd, dd, dd, dd, dd, dd]
noncomputable def L25_3 (G : Gate) (call : CallF) (k n : Nat) (v0 v1 v2 v3 v4 v5 v6 v7 v8 v9 v10 v11 v12 : PV) : R := loopAt Try.prog H0 G call k 25 [.b, .b, .a, .b, .blk] n (S25_3 v0 v1 v2 v3 v4 v5 v6 v7 v8 v9 v10 v11 v12) (behind Try.prog H0 G call k 25 [.b, .b, .a, .b, .blk])
theorem J25_5_eq (call : CallF) (k n : Nat) (v0 v1 v2 v3 v4 v5 v6 v7 v8 v9 v10 v11 v12 : PV) : J25_5 gate1 call k n v0 v1 v2 v3 v4 v5 v6 v7 v8 v9 v10 v11 v12 =
  bif leI (0) (v12.toInt) && ltI (v12.toInt) ((Nat.cast v10.toList.length : Int)) then
    let c0 := call 25 [AO.pv (Ty.st 27) (nth default v10.toList v12.toInt.toNat)]
    bif okRes (Ty.int IntKind.i64) c0 then
  L25_3 gate1 call k n (v0) (v1) (v2) (v3) (v4) (v5) (v6) (v7) (v8) (v9) (v10) (PV.int IntKind.i64 (IntKind.i64.wrap (v11.toInt + (resPV c0).toInt))) (PV.int IntKind.i64 (IntKind.i64.wrap (v12.toInt + 1)))
    else
      none
  else
    none := by rw [J25_5, gate1_app]; kernel_rfl
theorem J25_6_eq (call : CallF) (k : Nat) (v0 : PV) : J25_6 gate1 call k v0 =
  some ([AO.pv (Ty.int IntKind.i64) v0], []) := by rw [J25_6, gate1_app]; kernel_rfl
theorem L25_3_succ (G : Gate) (call : CallF) (k n : Nat) (v0 v1 v2 v3 v4 v5 v6 v7 v8 v9 v10 v11 v12 : PV) : L25_3 G call k (n + 1) v0 v1 v2 v3 v4 v5 v6 v7 v8 v9 v10 v11 v12 =
  bif ltI (v12.toInt) ((Nat.cast v10.toList.length : Int)) then
    J25_5 G call k n (v0) (v1) (v2) (v3) (v4) (v5) (v6) (v7) (v8) (v9) (v10) (v11) (v12)
  else
  J25_6 G call k (v11) := by kernel_rfl
theorem R25 (call : CallF) (k : Nat) (x0 : PV) : evStep Try.prog H0 call k 25 [AO.pv (Ty.st 27) x0] =
  L25_3 gate1 call k k (x0.cell 0) (x0.cell 1) (x0.cell 2) (x0.cell 3) (x0.cell 4) (x0.cell 5) (x0.cell 6) (x0.cell 7) (x0.cell 8) (x0.cell 9) (x0.cell 10) (PV.int IntKind.i64 1) (PV.int IntKind.i64 0) := by rw [evStep_eq]; kernel_rfl
def SJ26_2 (v0 v1 v2 v3 v4 v5 v6 v7 v8 v9 v10 v11 : PV) : St := [dd, AV.o (AO.box 27 [AO.pv Ty.str v0, AO.pv Ty.str v1, AO.pv (Ty.int IntKind.i64) v2, AO.pv (Ty.int IntKind.i64) v3, AO.pv (Ty.sl 38) v4, AO.pv Ty.str v5, AO.pv (Ty.int IntKind.i64) v6, AO.pv (Ty.int IntKind.i64) v7, AO.pv Ty.str v8, AO.pv Ty.str v9, AO.pv (Ty.sl 27) v10]), dd, dd, dd, dd, dd, dd, dd, dd, dd, dd, dd, dd, dd, dd, dd, dd, dd, dd, AV.o (AO.pv Ty.bool v11), dd, dd, dd, dd, dd, dd, dd, dd, dd, dd, dd]
noncomputable def J26_2 (G : Gate) (call : CallF) (k : Nat) (v0 v1 v2 v3 v4 v5 v6 v7 v8 v9 v10 v11 : PV) : R := G 2 (regAt Try.prog call 26 [.b, .a, .b, .x, .a]) (SJ26_2 v0 v1 v2 v3 v4 v5 v6 v7 v8 v9 v10 v11) (behind Try.prog H0 G call k 26 [.b, .a, .b, .x, .a] .normal)
def SJ26_8 (v0 v1 v2 : PV) : St := [dd, dd, dd, dd, dd, dd, dd, dd, dd, dd, dd, dd, dd, dd, dd, dd, dd, dd, dd, dd, dd, dd, AV.o (AO.pv (Ty.sl 27) v0), AV.o (AO.pv (Ty.int IntKind.i64) v1), AV.o (AO.pv (Ty.int IntKind.i64) v2), dd, dd, dd, dd, dd, dd, dd]
noncomputable def J26_8 (G : Gate) (call : CallF) (k n : Nat) (v0 v1 v2 : PV) : R := G 8 (regAt Try.prog call 26 [.b, .b, .a, .b, .blk, .lp n, .b, .b, .b]) (SJ26_8 v0 v1 v2) (behind Try.prog H0 G call k 26 [.b, .b, .a, .b, .blk, .lp n, .b, .b, .b] .normal)
def SJ26_5 (v0 v1 v2 : PV) : St := [dd, dd, dd, dd, dd, dd, dd, dd, dd, dd, dd, dd, dd, dd, dd, dd, dd, dd, dd, dd, dd, dd, AV.o (AO.pv (Ty.sl 27) v0), AV.o (AO.pv (Ty.int IntKind.i64) v1), AV.o (AO.pv (Ty.int IntKind.i64) v2), dd, dd, dd, dd, dd, dd, dd]
noncomputable def J26_5 (G : Gate) (call : CallF) (k n : Nat) (v0 v1 v2 : PV) : R := G 5 (regAt Try.prog call 26 [.b, .b, .a, .b, .blk, .lp n, .b, .b, .a, .blk, .a]) (SJ26_5 v0 v1 v2) (behind Try.prog H0 G call k 26 [.b, .b, .a, .b, .blk, .lp n, .b, .b, .a, .blk, .a] .normal)
def SJ26_9  : St := [dd, dd, dd, dd, dd, dd, dd, dd, dd, dd, dd, dd, dd, dd, dd, dd, dd, dd, dd, dd, dd, dd, dd, dd, dd, dd, dd, dd, dd, dd, dd, dd]
noncomputable def J26_9 (G : Gate) (call : CallF) (k : Nat)  : R := G 9 (regAt Try.prog call 26 [.b, .b, .b, .a]) (SJ26_9 ) (behind Try.prog H0 G call k 26 [.b, .b, .b, .a] .normal)
def S26_4 (v0 v1 v2 : PV) : St := [dd, dd, dd, dd, dd, dd, dd, dd, dd, dd, dd, dd, dd, dd, dd, dd, dd, dd, dd, dd, dd, dd, AV.o (AO.pv (Ty.sl 27) v0), AV.o (AO.pv (Ty.int IntKind.i64) v1), AV.o (AO.pv (Ty.int IntKind.i64) v2), dd, dd, dd, dd, dd, dd, dd]
noncomputable def L26_4 (G : Gate) (call : CallF) (k n : Nat) (v0 v1 v2 : PV) : R := loopAt Try.prog H0 G call k 26 [.b, .b, .a, .b, .blk] n (S26_4 v0 v1 v2) (behind Try.prog H0 G call k 26 [.b, .b, .a, .b, .blk])
def SJ26_3 (v0 v1 v2 v3 v4 v5 v6 v7 v8 v9 v10 : PV) : St := [dd, AV.o (AO.box 27 [AO.pv Ty.str v0, AO.pv Ty.str v1, AO.pv (Ty.int IntKind.i64) v2, AO.pv (Ty.int IntKind.i64) v3, AO.pv (Ty.sl 38) v4, AO.pv Ty.str v5, AO.pv (Ty.int IntKind.i64) v6, AO.pv (Ty.int IntKind.i64) v7, AO.pv Ty.str v8, AO.pv Ty.str v9, AO.pv (Ty.sl 27) v10]), dd, dd, dd, dd, dd, dd, dd, dd, dd, dd, dd, dd, dd, dd, dd, dd, dd, dd, dd, dd, dd, dd, dd, dd, dd, dd, dd, dd, dd, dd]
noncomputable def J26_3 (G : Gate) (call : CallF) (k : Nat) (v0 v1 v2 v3 v4 v5 v6 v7 v8 v9 v10 : PV) : R := G 3 (regAt Try.prog call 26 [.b, .b, .a, .a]) (SJ26_3 v0 v1 v2 v3 v4 v5 v6 v7 v8 v9 v10) (behind Try.prog H0 G call k 26 [.b, .b, .a, .a] .normal)
theorem J26_2_eq (call : CallF) (k : Nat) (v0 v1 v2 v3 v4 v5 v6 v7 v8 v9 v10 v11 : PV) : J26_2 gate1 call k v0 v1 v2 v3 v4 v5 v6 v7 v8 v9 v10 v11 =
  some ([AO.pv Ty.bool (PV.bool false)], []) := by rw [J26_2, gate1_app]; kernel_rfl
theorem J26_8_eq (call : CallF) (k n : Nat) (v0 v1 v2 : PV) : J26_8 gate1 call k n v0 v1 v2 =
  L26_4 gate1 call k n (v0) (v1) (PV.int IntKind.i64 (IntKind.i64.wrap (v2.toInt + 1))) := by rw [J26_8, gate1_app]; kernel_rfl
theorem J26_5_eq (call : CallF) (k n : Nat) (v0 v1 v2 : PV) : J26_5 gate1 call k n v0 v1 v2 =
  bif leI (0) (v2.toInt) && ltI (v2.toInt) ((Nat.cast v0.toList.length : Int)) then
    let c0 := call 26 [AO.pv (Ty.st 27) (PV.agg [(nth default v0.toList v2.toInt.toNat).cell 0, (nth default v0.toList v2.toInt.toNat).cell 1, (nth default v0.toList v2.toInt.toNat).cell 2, (nth default v0.toList v2.toInt.toNat).cell 3, (nth default v0.toList v2.toInt.toNat).cell 4, (nth default v0.toList v2.toInt.toNat).cell 5, (nth default v0.toList v2.toInt.toNat).cell 6, (nth default v0.toList v2.toInt.toNat).cell 7, (nth default v0.toList v2.toInt.toNat).cell 8, (nth default v0.toList v2.toInt.toNat).cell 9, (nth default v0.toList v2.toInt.toNat).cell 10])]
    bif okRes Ty.bool c0 then
      bif !(resPV c0).toBool then
  some ([AO.pv Ty.bool (PV.bool false)], [])
      else
        J26_8 gate1 call k n (v0) (v1) (v2)
    else
      none
  else
    none := by rw [J26_5, gate1_app]; kernel_rfl
theorem J26_9_eq (call : CallF) (k : Nat)  : J26_9 gate1 call k  =
  some ([AO.pv Ty.bool (PV.bool true)], []) := by rw [J26_9, gate1_app]; kernel_rfl
theorem L26_4_succ (G : Gate) (call : CallF) (k n : Nat) (v0 v1 v2 : PV) : L26_4 G call k (n + 1) v0 v1 v2 =
  bif ltI (v2.toInt) (v1.toInt) then
    J26_5 G call k n (v0) (v1) (v2)
  else
  J26_9 G call k  := by kernel_rfl
theorem J26_3_eq (call : CallF) (k : Nat) (v0 v1 v2 v3 v4 v5 v6 v7 v8 v9 v10 : PV) : J26_3 gate1 call k v0 v1 v2 v3 v4 v5 v6 v7 v8 v9 v10 =
  L26_4 gate1 call k k (v10) (PV.int IntKind.i64 (Nat.cast v10.toList.length : Int)) (PV.int IntKind.i64 0) := by rw [J26_3, gate1_app]; kernel_rfl
theorem R26 (call : CallF) (k : Nat) (x0 : PV) : evStep Try.prog H0 call k 26 [AO.pv (Ty.st 27) x0] =
  bif ltI (100) ((Nat.cast (x0.cell 1).toStr.size : Int)) then
    J26_2 gate1 call k (x0.cell 0) (x0.cell 1) (x0.cell 2) (x0.cell 3) (x0.cell 4) (x0.cell 5) (x0.cell 6) (x0.cell 7) (x0.cell 8) (x0.cell 9) (x0.cell 10) (PV.bool true)
  else
    bif ltI (100) ((Nat.cast (x0.cell 0).toStr.size : Int)) then
      J26_2 gate1 call k (x0.cell 0) (x0.cell 1) (x0.cell 2) (x0.cell 3) (x0.cell 4) (x0.cell 5) (x0.cell 6) (x0.cell 7) (x0.cell 8) (x0.cell 9) (x0.cell 10) (PV.bool true)
    else
      bif ltI (300) ((Nat.cast (x0.cell 4).toList.length : Int)) then
        J26_2 gate1 call k (x0.cell 0) (x0.cell 1) (x0.cell 2) (x0.cell 3) (x0.cell 4) (x0.cell 5) (x0.cell 6) (x0.cell 7) (x0.cell 8) (x0.cell 9) (x0.cell 10) (PV.bool true)
      else
        J26_3 gate1 call k (x0.cell 0) (x0.cell 1) (x0.cell 2) (x0.cell 3) (x0.cell 4) (x0.cell 5) (x0.cell 6) (x0.cell 7) (x0.cell 8) (x0.cell 9) (x0.cell 10) := by rw [evStep_eq]; kernel_rfl
def SJ29_6 (v0 v1 v2 v3 : PV) (v4 : List PV) (v5 v6 v7 v8 v9 : PV) (v10 : List PV) (v11 v12 v13 v14 : PV) (v15 : List PV) (v16 v17 v18 v19 v20 : PV) (v21 : List PV) (v22 v23 v24 : PV) : St := [dd, dd, AV.o (AO.box 27 [AO.pv Ty.str v0, AO.pv Ty.str v1, AO.pv (Ty.int IntKind.i64) v2, AO.pv (Ty.int IntKind.i64) v3, AO.arr 38 v4, AO.pv Ty.str v5, AO.pv (Ty.int IntKind.i64) v6, AO.pv (Ty.int IntKind.i64) v7, AO.pv Ty.str v8, AO.pv Ty.str v9, AO.arr 27 v10]), AV.o (AO.box 27 [AO.pv Ty.str v11, AO.pv Ty.str v12, AO.pv (Ty.int IntKind.i64) v13, AO.pv (Ty.int IntKind.i64) v14, AO.arr 38 v15, AO.pv Ty.str v16, AO.pv (Ty.int IntKind.i64) v17, AO.pv (Ty.int IntKind.i64) v18, AO.pv Ty.str v19, AO.pv Ty.str v20, AO.arr 27 v21]), dd, dd, dd, dd, dd, dd, dd, dd, dd, AV.o (AO.pv (Ty.sl 27) v22), AV.o (AO.pv (Ty.int IntKind.i64) v23), AV.o (AO.pv (Ty.int IntKind.i64) v24), dd, dd, dd, dd, dd, dd, dd, dd, dd, dd, dd, dd]
noncomputable def J29_6 (G : Gate) (call : CallF) (k n : Nat) (v0 v1 v2 v3 : PV) (v4 : List PV) (v5 v6 v7 v8 v9 : PV) (v10 : List PV) (v11 v12 v13 v14 : PV) (v15 : List PV) (v16 v17 v18 v19 v20 : PV) (v21 : List PV) (v22 v23 v24 : PV) : R := G 6 (regAt Try.prog call 29 [.b, .b, .b, .b, .a, .b, .blk, .lp n, .b, .b, .a, .blk, .a]) (SJ29_6 v0 v1 v2 v3 v4 v5 v6 v7 v8 v9 v10 v11 v12 v13 v14 v15 v16 v17 v18 v19 v20 v21 v22 v23 v24) (behind Try.prog H0 G call k 29 [.b, .b, .b, .b, .a, .b, .blk, .lp n, .b, .b, .a, .blk, .a] .normal)
def SJ29_9 (v0 v1 v2 v3 : PV) (v4 : List PV) (v5 v6 v7 v8 v9 : PV) (v10 : List PV) (v11 v12 v13 v14 : PV) (v15 : List PV) (v16 v17 v18 v19 v20 : PV) (v21 : List PV) : St := [dd, dd, AV.o (AO.box 27 [AO.pv Ty.str v0, AO.pv Ty.str v1, AO.pv (Ty.int IntKind.i64) v2, AO.pv (Ty.int IntKind.i64) v3, AO.arr 38 v4, AO.pv Ty.str v5, AO.pv (Ty.int IntKind.i64) v6, AO.pv (Ty.int IntKind.i64) v7, AO.pv Ty.str v8, AO.pv Ty.str v9, AO.arr 27 v10]), AV.o (AO.box 27 [AO.pv Ty.str v11, AO.pv Ty.str v12, AO.pv (Ty.int IntKind.i64) v13, AO.pv (Ty.int IntKind.i64) v14, AO.arr 38 v15, AO.pv Ty.str v16, AO.pv (Ty.int IntKind.i64) v17, AO.pv (Ty.int IntKind.i64) v18, AO.pv Ty.str v19, AO.pv Ty.str v20, AO.arr 27 v21]), dd, dd, dd, dd, dd, dd, dd, dd, dd, dd, dd, dd, dd, dd, dd, dd, dd, dd, dd, dd, dd, dd, dd, dd]
noncomputable def J29_9 (G : Gate) (call : CallF) (k : Nat) (v0 v1 v2 v3 : PV) (v4 : List PV) (v5 v6 v7 v8 v9 : PV) (v10 : List PV) (v11 v12 v13 v14 : PV) (v15 : List PV) (v16 v17 v18 v19 v20 : PV) (v21 : List PV) : R := G 9 (regAt Try.prog call 29 [.b, .b, .b, .b, .b, .a]) (SJ29_9 v0 v1 v2 v3 v4 v5 v6 v7 v8 v9 v10 v11 v12 v13 v14 v15 v16 v17 v18 v19 v20 v21) (behind Try.prog H0 G call k 29 [.b, .b, .b, .b, .b, .a] .normal)
def S29_5 (v0 v1 v2 v3 : PV) (v4 : List PV) (v5 v6 v7 v8 v9 : PV) (v10 : List PV) (v11 v12 v13 v14 : PV) (v15 : List PV) (v16 v17 v18 v19 v20 : PV) (v21 : List PV) (v22 v23 v24 : PV) : St := [dd, dd, AV.o (AO.box 27 [AO.pv Ty.str v0, AO.pv Ty.str v1, AO.pv (Ty.int IntKind.i64) v2, AO.pv (Ty.int IntKind.i64) v3, AO.arr 38 v4, AO.pv Ty.str v5, AO.pv (Ty.int IntKind.i64) v6, AO.pv (Ty.int IntKind.i64) v7, AO.pv Ty.str v8, AO.pv Ty.str v9, AO.arr 27 v10]), AV.o (AO.box 27 [AO.pv Ty.str v11, AO.pv Ty.str v12, AO.pv (Ty.int IntKind.i64) v13, AO.pv (Ty.int IntKind.i64) v14, AO.arr 38 v15, AO.pv Ty.str v16, AO.pv (Ty.int IntKind.i64) v17, AO.pv (Ty.int IntKind.i64) v18, AO.pv Ty.str v19, AO.pv Ty.str v20, AO.arr 27 v21]), dd, dd, dd, dd, dd, dd, dd, dd, dd, AV.o (AO.pv (Ty.sl 27) v22), AV.o (AO.pv (Ty.int IntKind.i64) v23), AV.o (AO.pv (Ty.int IntKind.i64) v24), dd, dd, dd, dd, dd, dd, dd, dd, dd, dd, dd, dd]
noncomputable def L29_5 (G : Gate) (call : CallF) (k n : Nat) (v0 v1 v2 v3 : PV) (v4 : List PV) (v5 v6 v7 v8 v9 : PV) (v10 : List PV) (v11 v12 v13 v14 : PV) (v15 : List PV) (v16 v17 v18 v19 v20 : PV) (v21 : List PV) (v22 v23 v24 : PV) : R := loopAt Try.prog H0 G call k 29 [.b, .b, .b, .b, .a, .b, .blk] n (S29_5 v0 v1 v2 v3 v4 v5 v6 v7 v8 v9 v10 v11 v12 v13 v14 v15 v16 v17 v18 v19 v20 v21 v22 v23 v24) (behind Try.prog H0 G call k 29 [.b, .b, .b, .b, .a, .b, .blk])
theorem J29_6_eq (call : CallF) (k n : Nat) (v0 v1 v2 v3 : PV) (v4 : List PV) (v5 v6 v7 v8 v9 : PV) (v10 : List PV) (v11 v12 v13 v14 : PV) (v15 : List PV) (v16 v17 v18 v19 v20 : PV) (v21 : List PV) (v22 v23 v24 : PV) : J29_6 gate1 call k n v0 v1 v2 v3 v4 v5 v6 v7 v8 v9 v10 v11 v12 v13 v14 v15 v16 v17 v18 v19 v20 v21 v22 v23 v24 =
  bif leI (0) (v24.toInt) && ltI (v24.toInt) ((Nat.cast v22.toList.length : Int)) then
    let c0 := call 29 [AO.pv (Ty.st 27) (PV.agg [(nth default v22.toList v24.toInt.toNat).cell 0, (nth default v22.toList v24.toInt.toNat).cell 1, (nth default v22.toList v24.toInt.toNat).cell 2, (nth default v22.toList v24.toInt.toNat).cell 3, (nth default v22.toList v24.toInt.toNat).cell 4, (nth default v22.toList v24.toInt.toNat).cell 5, (nth default v22.toList v24.toInt.toNat).cell 6, (nth default v22.toList v24.toInt.toNat).cell 7, (nth default v22.toList v24.toInt.toNat).cell 8, (nth default v22.toList v24.toInt.toNat).cell 9, (nth default v22.toList v24.toInt.toNat).cell 10])]
    bif okRes (Ty.st 27) c0 then
      bif Nat.beq 27 27 && leN ((v21.length + [resPV c0].reverse.length) * 160) (room) then
  L29_5 gate1 call k n (v0) (v1) (v2) (v3) (v4) (v5) (v6) (v7) (v8) (v9) (v10) (v11) (v12) (v13) (v14) (v15) (v16) (v17) (v18) (v19) (v20) (v21 ++ [resPV c0].reverse) (v22) (v23) (PV.int IntKind.i64 (IntKind.i64.wrap (v24.toInt + 1)))
      else
        none
    else
      none
  else
    none := by rw [J29_6, gate1_app]; kernel_rfl
theorem J29_9_eq (call : CallF) (k : Nat) (v0 v1 v2 v3 : PV) (v4 : List PV) (v5 v6 v7 v8 v9 : PV) (v10 : List PV) (v11 v12 v13 v14 : PV) (v15 : List PV) (v16 v17 v18 v19 v20 : PV) (v21 : List PV) : J29_9 gate1 call k v0 v1 v2 v3 v4 v5 v6 v7 v8 v9 v10 v11 v12 v13 v14 v15 v16 v17 v18 v19 v20 v21 =
  some ([AO.pv (Ty.st 27) (PV.agg [v11, v12, v13, v14, PV.sl v15, v16, v17, v18, v19, v20, PV.sl v21])], []) := by rw [J29_9, gate1_app]; kernel_rfl
theorem L29_5_succ (G : Gate) (call : CallF) (k n : Nat) (v0 v1 v2 v3 : PV) (v4 : List PV) (v5 v6 v7 v8 v9 : PV) (v10 : List PV) (v11 v12 v13 v14 : PV) (v15 : List PV) (v16 v17 v18 v19 v20 : PV) (v21 : List PV) (v22 v23 v24 : PV) : L29_5 G call k (n + 1) v0 v1 v2 v3 v4 v5 v6 v7 v8 v9 v10 v11 v12 v13 v14 v15 v16 v17 v18 v19 v20 v21 v22 v23 v24 =
  bif ltI (v24.toInt) (v23.toInt) then
    J29_6 G call k n (v0) (v1) (v2) (v3) (v4) (v5) (v6) (v7) (v8) (v9) (v10) (v11) (v12) (v13) (v14) (v15) (v16) (v17) (v18) (v19) (v20) (v21) (v22) (v23) (v24)
  else
  J29_9 G call k (v0) (v1) (v2) (v3) (v4) (v5) (v6) (v7) (v8) (v9) (v10) (v11) (v12) (v13) (v14) (v15) (v16) (v17) (v18) (v19) (v20) (v21) := by kernel_rfl
theorem R29 (call : CallF) (k : Nat) (x0 : PV) : evStep Try.prog H0 call k 29 [AO.pv (Ty.st 27) x0] =
  bif leN ((x0.cell 4).toList.length * 16) (room) then
    L29_5 gate1 call k k (PV.str (ByteArray.mk #[])) (PV.str (ByteArray.mk #[])) (PV.int IntKind.i64 0) (PV.int IntKind.i64 0) ([]) (PV.str (ByteArray.mk #[])) (PV.int IntKind.i64 0) (PV.int IntKind.i64 0) (PV.str (ByteArray.mk #[])) (PV.str (ByteArray.mk #[])) ([]) (x0.cell 0) (x0.cell 1) (x0.cell 2) (x0.cell 3) ((x0.cell 4).toList) (x0.cell 5) (x0.cell 6) (x0.cell 7) (x0.cell 8) (x0.cell 9) ([]) (x0.cell 10) (PV.int IntKind.i64 (Nat.cast (x0.cell 10).toList.length : Int)) (PV.int IntKind.i64 0)
  else
    none := by rw [evStep_eq]; kernel_rfl
def SJ31_7 (v0 v1 v2 v3 : PV) : St := [AV.o (AO.pv (Ty.sl 38) v0), AV.o (AO.pv (Ty.sl 38) v1), dd, dd, dd, AV.o (AO.pv (Ty.int IntKind.i64) v2), dd, dd, dd, dd, dd, dd, dd, dd, dd, dd, dd, dd, dd, dd, dd, dd, dd, dd, dd, dd, dd, dd, dd, dd, dd, dd, dd, dd, dd, dd, dd, dd, dd, AV.o (AO.pv Ty.bool v3)]
noncomputable def J31_7 (G : Gate) (call : CallF) (k n : Nat) (v0 v1 v2 v3 : PV) : R := G 7 (regAt Try.prog call 31 [.b, .b, .a, .b, .blk, .lp n, .b, .a, .blk, .b, .x, .a]) (SJ31_7 v0 v1 v2 v3) (behind Try.prog H0 G call k 31 [.b, .b, .a, .b, .blk, .lp n, .b, .a, .blk, .b, .x, .a] .normal)
def SJ31_5 (v0 v1 v2 : PV) : St := [AV.o (AO.pv (Ty.sl 38) v0), AV.o (AO.pv (Ty.sl 38) v1), dd, dd, dd, AV.o (AO.pv (Ty.int IntKind.i64) v2), dd, dd, dd, dd, dd, dd, dd, dd, dd, dd, dd, dd, dd, dd, dd, dd, dd, dd, dd, dd, dd, dd, dd, dd, dd, dd, dd, dd, dd, dd, dd, dd, dd, dd]
noncomputable def J31_5 (G : Gate) (call : CallF) (k n : Nat) (v0 v1 v2 : PV) : R := G 5 (regAt Try.prog call 31 [.b, .b, .a, .b, .blk, .lp n, .b, .b]) (SJ31_5 v0 v1 v2) (behind Try.prog H0 G call k 31 [.b, .b, .a, .b, .blk, .lp n, .b, .b] .normal)
def SJ31_6 (v0 v1 v2 : PV) : St := [AV.o (AO.pv (Ty.sl 38) v0), AV.o (AO.pv (Ty.sl 38) v1), dd, dd, dd, AV.o (AO.pv (Ty.int IntKind.i64) v2), dd, dd, dd, dd, dd, dd, dd, dd, dd, dd, dd, dd, dd, dd, dd, dd, dd, dd, dd, dd, dd, dd, dd, dd, dd, dd, dd, dd, dd, dd, dd, dd, dd, dd]
noncomputable def J31_6 (G : Gate) (call : CallF) (k n : Nat) (v0 v1 v2 : PV) : R := G 6 (regAt Try.prog call 31 [.b, .b, .a, .b, .blk, .lp n, .b, .a, .blk, .a]) (SJ31_6 v0 v1 v2) (behind Try.prog H0 G call k 31 [.b, .b, .a, .b, .blk, .lp n, .b, .a, .blk, .a] .normal)
def SJ31_8  : St := [dd, dd, dd, dd, dd, dd, dd, dd, dd, dd, dd, dd, dd, dd, dd, dd, dd, dd, dd, dd, dd, dd, dd, dd, dd, dd, dd, dd, dd, dd, dd, dd, dd, dd, dd, dd, dd, dd, dd, dd]
noncomputable def J31_8 (G : Gate) (call : CallF) (k : Nat)  : R := G 8 (regAt Try.prog call 31 [.b, .b, .b, .a]) (SJ31_8 ) (behind Try.prog H0 G call k 31 [.b, .b, .b, .a] .normal)
def S31_4 (v0 v1 v2 : PV) : St := [AV.o (AO.pv (Ty.sl 38) v0), AV.o (AO.pv (Ty.sl 38) v1), dd, dd, dd, AV.o (AO.pv (Ty.int IntKind.i64) v2), dd, dd, dd, dd, dd, dd, dd, dd, dd, dd, dd, dd, dd, dd, dd, dd, dd, dd, dd, dd, dd, dd, dd, dd, dd, dd, dd, dd, dd, dd, dd, dd, dd, dd]
noncomputable def L31_4 (G : Gate) (call : CallF) (k n : Nat) (v0 v1 v2 : PV) : R := loopAt Try.prog H0 G call k 31 [.b, .b, .a, .b, .blk] n (S31_4 v0 v1 v2) (behind Try.prog H0 G call k 31 [.b, .b, .a, .b, .blk])
def SJ31_3 (v0 v1 : PV) : St := [AV.o (AO.pv (Ty.sl 38) v0), AV.o (AO.pv (Ty.sl 38) v1), dd, dd, dd, dd, dd, dd, dd, dd, dd, dd, dd, dd, dd, dd, dd, dd, dd, dd, dd, dd, dd, dd, dd, dd, dd, dd, dd, dd, dd, dd, dd, dd, dd, dd, dd, dd, dd, dd]
noncomputable def J31_3 (G : Gate) (call : CallF) (k : Nat) (v0 v1 : PV) : R := G 3 (regAt Try.prog call 31 [.b, .b, .a, .a]) (SJ31_3 v0 v1) (behind Try.prog H0 G call k 31 [.b, .b, .a, .a] .normal)
theorem J31_7_eq (call : CallF) (k n : Nat) (v0 v1 v2 v3 : PV) : J31_7 gate1 call k n v0 v1 v2 v3 =
  some ([AO.pv Ty.bool (PV.bool false)], []) := by rw [J31_7, gate1_app]; kernel_rfl
theorem J31_5_eq (call : CallF) (k n : Nat) (v0 v1 v2 : PV) : J31_5 gate1 call k n v0 v1 v2 =
  L31_4 gate1 call k n (v0) (v1) (PV.int IntKind.i64 (IntKind.i64.wrap (v2.toInt + 1))) := by rw [J31_5, gate1_app]; kernel_rfl
theorem J31_6_eq (call : CallF) (k n : Nat) (v0 v1 v2 : PV) : J31_6 gate1 call k n v0 v1 v2 =
  bif leI (0) (v2.toInt) && ltI (v2.toInt) ((Nat.cast v0.toList.length : Int)) then
    bif leI (0) (v2.toInt) && ltI (v2.toInt) ((Nat.cast v1.toList.length : Int)) then
      bif !(eqI (((nth default v0.toList v2.toInt.toNat).cell 0).toInt) (((nth default v1.toList v2.toInt.toNat).cell 0).toInt) && eqI (((nth default v0.toList v2.toInt.toNat).cell 1).toInt) (((nth default v1.toList v2.toInt.toNat).cell 1).toInt)) then
        bif leI (0) (v2.toInt) && ltI (v2.toInt) ((Nat.cast v0.toList.length : Int)) then
          let c0 := call 40 [AO.pv (Ty.st 38) (nth default v0.toList v2.toInt.toNat)]
          bif okRes Ty.bool c0 then
            bif (resPV c0).toBool then
              bif (resPV c0).toBool then
                bif !(eqI (((nth default v0.toList v2.toInt.toNat).cell 0).toInt) (((nth default v1.toList v2.toInt.toNat).cell 0).toInt) && eqI (((nth default v0.toList v2.toInt.toNat).cell 1).toInt) (((nth default v1.toList v2.toInt.toNat).cell 1).toInt)) then
                  J31_7 gate1 call k n (v0) (v1) (v2) (PV.bool true)
                else
                  J31_5 gate1 call k n (v0) (v1) (v2)
              else
                none
            else
              bif leI (0) (v2.toInt) && ltI (v2.toInt) ((Nat.cast v1.toList.length : Int)) then
                let c1 := call 40 [AO.pv (Ty.st 38) (nth default v1.toList v2.toInt.toNat)]
                bif okRes Ty.bool c1 then
                  bif (resPV c0).toBool then
                    bif !(eqI (((nth default v0.toList v2.toInt.toNat).cell 0).toInt) (((nth default v1.toList v2.toInt.toNat).cell 0).toInt) && eqI (((nth default v0.toList v2.toInt.toNat).cell 1).toInt) (((nth default v1.toList v2.toInt.toNat).cell 1).toInt)) then
                      J31_7 gate1 call k n (v0) (v1) (v2) (PV.bool true)
                    else
                      J31_5 gate1 call k n (v0) (v1) (v2)
                  else
                    bif !(eqI (((nth default v0.toList v2.toInt.toNat).cell 0).toInt) (((nth default v1.toList v2.toInt.toNat).cell 0).toInt) && eqI (((nth default v0.toList v2.toInt.toNat).cell 1).toInt) (((nth default v1.toList v2.toInt.toNat).cell 1).toInt)) then
                      bif (resPV c1).toBool then
                        J31_7 gate1 call k n (v0) (v1) (v2) (PV.bool true)
                      else
                        J31_5 gate1 call k n (v0) (v1) (v2)
                    else
                      J31_5 gate1 call k n (v0) (v1) (v2)
                else
                  none
              else
                none
          else
            none
        else
          none
      else
        bif !(eqI (((nth default v0.toList v2.toInt.toNat).cell 0).toInt) (((nth default v1.toList v2.toInt.toNat).cell 0).toInt) && eqI (((nth default v0.toList v2.toInt.toNat).cell 1).toInt) (((nth default v1.toList v2.toInt.toNat).cell 1).toInt)) then
          none
        else
          J31_5 gate1 call k n (v0) (v1) (v2)
    else
      none
  else
    none := by rw [J31_6, gate1_app]; kernel_rfl
theorem J31_8_eq (call : CallF) (k : Nat)  : J31_8 gate1 call k  =
  some ([AO.pv Ty.bool (PV.bool true)], []) := by rw [J31_8, gate1_app]; kernel_rfl
theorem L31_4_succ (G : Gate) (call : CallF) (k n : Nat) (v0 v1 v2 : PV) : L31_4 G call k (n + 1) v0 v1 v2 =
  bif ltI (v2.toInt) ((Nat.cast v0.toList.length : Int)) then
    J31_6 G call k n (v0) (v1) (v2)
  else
  J31_8 G call k  := by kernel_rfl
theorem J31_3_eq (call : CallF) (k : Nat) (v0 v1 : PV) : J31_3 gate1 call k v0 v1 =
  L31_4 gate1 call k k (v0) (v1) (PV.int IntKind.i64 0) := by rw [J31_3, gate1_app]; kernel_rfl
theorem R31 (call : CallF) (k : Nat) (x0 x1 : PV) : evStep Try.prog H0 call k 31 [AO.pv (Ty.sl 38) x0, AO.pv (Ty.sl 38) x1] =
  bif !eqI ((Nat.cast x0.toList.length : Int)) ((Nat.cast x1.toList.length : Int)) then
    some ([AO.pv Ty.bool (PV.bool false)], [])
  else
    J31_3 gate1 call k (x0) (x1) := by rw [evStep_eq]; kernel_rfl
theorem R40 (call : CallF) (k : Nat) (x0 : PV) : evStep Try.prog H0 call k 40 [AO.pv (Ty.st 38) x0] =
  bif leI (1) ((x0.cell 1).toInt) then
    bif leI ((x0.cell 1).toInt) (1073741824) then
      bif leI (-1073741824) ((x0.cell 0).toInt) then
        bif leI ((x0.cell 0).toInt) (1073741824) then
          let c0 := call 47 [AO.pv (Ty.int IntKind.i64) (x0.cell 0), AO.pv (Ty.int IntKind.i64) (x0.cell 1)]
          bif okRes (Ty.int IntKind.i64) c0 then
            some ([AO.pv Ty.bool (PV.bool (eqI ((resPV c0).toInt) (1)))], [])
          else
            none
        else
          some ([AO.pv Ty.bool (PV.bool false)], [])
      else
        some ([AO.pv Ty.bool (PV.bool false)], [])
    else
      some ([AO.pv Ty.bool (PV.bool false)], [])
  else
    some ([AO.pv Ty.bool (PV.bool false)], []) := by rw [evStep_eq]; kernel_rfl
def SJ47_6 (v0 v1 : PV) : St := [AV.o (AO.pv (Ty.int IntKind.i64) v0), AV.o (AO.pv (Ty.int IntKind.i64) v1), dd, dd, dd, dd, dd, dd, dd, dd, dd, dd, dd, dd, dd, dd, dd, dd, dd, dd, dd, dd]
noncomputable def J47_6 (G : Gate) (call : CallF) (k n : Nat) (v0 v1 : PV) : R := G 6 (regAt Try.prog call 47 [.b, .b, .b, .a, .blk, .lp n, .b, .blk, .a]) (SJ47_6 v0 v1) (behind Try.prog H0 G call k 47 [.b, .b, .b, .a, .blk, .lp n, .b, .blk, .a] .normal)
def SJ47_9 (v0 v1 : PV) : St := [AV.o (AO.pv (Ty.int IntKind.i64) v0), AV.o (AO.pv (Ty.int IntKind.i64) v1), dd, dd, dd, dd, dd, dd, dd, dd, dd, dd, dd, dd, dd, dd, dd, dd, dd, dd, dd, dd]
noncomputable def J47_9 (G : Gate) (call : CallF) (k : Nat) (v0 v1 : PV) : R := G 9 (regAt Try.prog call 47 [.b, .b, .b, .b, .a]) (SJ47_9 v0 v1) (behind Try.prog H0 G call k 47 [.b, .b, .b, .b, .a] .normal)
def S47_5 (v0 v1 : PV) : St := [AV.o (AO.pv (Ty.int IntKind.i64) v0), AV.o (AO.pv (Ty.int IntKind.i64) v1), dd, dd, dd, dd, dd, dd, dd, dd, dd, dd, dd, dd, dd, dd, dd, dd, dd, dd, dd, dd]
noncomputable def L47_5 (G : Gate) (call : CallF) (k n : Nat) (v0 v1 : PV) : R := loopAt Try.prog H0 G call k 47 [.b, .b, .b, .a, .blk] n (S47_5 v0 v1) (behind Try.prog H0 G call k 47 [.b, .b, .b, .a, .blk])
def SJ47_3 (v0 v1 v2 : PV) : St := [AV.o (AO.pv (Ty.int IntKind.i64) v0), AV.o (AO.pv (Ty.int IntKind.i64) v1), dd, dd, dd, dd, dd, dd, dd, AV.o (AO.pv (Ty.int IntKind.i64) v2), dd, dd, dd, dd, dd, dd, dd, dd, dd, dd, dd, dd]
noncomputable def J47_3 (G : Gate) (call : CallF) (k : Nat) (v0 v1 v2 : PV) : R := G 3 (regAt Try.prog call 47 [.b, .b, .a, .a]) (SJ47_3 v0 v1 v2) (behind Try.prog H0 G call k 47 [.b, .b, .a, .a] .normal)
def SJ47_3s1 (v0 v1 : PV) : St := [AV.o (AO.pv (Ty.int IntKind.i64) v0), AV.o (AO.pv (Ty.int IntKind.i64) v1), dd, dd, dd, dd, dd, dd, dd, dd, dd, dd, dd, dd, dd, dd, dd, dd, dd, dd, dd, dd]
noncomputable def J47_3s1 (G : Gate) (call : CallF) (k : Nat) (v0 v1 : PV) : R := G 3 (regAt Try.prog call 47 [.b, .b, .a, .a]) (SJ47_3s1 v0 v1) (behind Try.prog H0 G call k 47 [.b, .b, .a, .a] .normal)
theorem J47_6_eq (call : CallF) (k n : Nat) (v0 v1 : PV) : J47_6 gate1 call k n v0 v1 =
  bif eqI (v1.toInt) (0) then
    none
  else
  L47_5 gate1 call k n (v1) (PV.int IntKind.i64 (v0.toInt.tmod v1.toInt)) := by rw [J47_6, gate1_app]; kernel_rfl
theorem J47_9_eq (call : CallF) (k : Nat) (v0 v1 : PV) : J47_9 gate1 call k v0 v1 =
  some ([AO.pv (Ty.int IntKind.i64) v0], []) := by rw [J47_9, gate1_app]; kernel_rfl
theorem L47_5_succ (G : Gate) (call : CallF) (k n : Nat) (v0 v1 : PV) : L47_5 G call k (n + 1) v0 v1 =
  bif !eqI (v1.toInt) (0) then
    J47_6 G call k n (v0) (v1)
  else
  J47_9 G call k (v0) (v1) := by kernel_rfl
theorem J47_3_eq (call : CallF) (k : Nat) (v0 v1 v2 : PV) : J47_3 gate1 call k v0 v1 v2 =
  bif ltI (v1.toInt) (0) then
    L47_5 gate1 call k k (v0) (PV.int IntKind.i64 (IntKind.i64.wrap (0 - v1.toInt)))
  else
    L47_5 gate1 call k k (v0) (v1) := by rw [J47_3, gate1_app]; kernel_rfl
theorem J47_3s1_eq (call : CallF) (k : Nat) (v0 v1 : PV) : J47_3s1 gate1 call k v0 v1 =
  bif ltI (v1.toInt) (0) then
    L47_5 gate1 call k k (v0) (PV.int IntKind.i64 (IntKind.i64.wrap (0 - v1.toInt)))
  else
    L47_5 gate1 call k k (v0) (v1) := by rw [J47_3s1, gate1_app]; kernel_rfl
theorem R47 (call : CallF) (k : Nat) (x0 x1 : PV) : evStep Try.prog H0 call k 47 [AO.pv (Ty.int IntKind.i64) x0, AO.pv (Ty.int IntKind.i64) x1] =
  bif ltI (x0.toInt) (0) then
    J47_3 gate1 call k (PV.int IntKind.i64 (IntKind.i64.wrap (0 - x0.toInt))) (x1) (PV.int IntKind.i64 (IntKind.i64.wrap (0 - x0.toInt)))
  else
    J47_3s1 gate1 call k (x0) (x1) := by rw [evStep_eq]; kernel_rfl
end Go.V
