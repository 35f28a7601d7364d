/- What the evaluator makes of the law FormatSays itself, with its calls left open. Conditions: none. -/
import Derived.Test.YtpkphcmnknjbeaaDoorVH
set_option maxRecDepth 100000
set_option linter.unusedVariables false
namespace Go.V
open Go.Proofs
def SJ5_6 (v0 v1 v2 v3 v4 v5 v6 v7 v8 v9 v10 v11 v12 v13 v14 v15 v16 v17 v18 v19 v20 v21 : PV) : St := [dd, AV.o (AO.box 45 [AO.pv Ty.str v0, AO.pv (Ty.int IntKind.i64) v1, AO.pv (Ty.int IntKind.i64) v2, AO.pv Ty.str v3, AO.pv Ty.str v4, AO.pv (Ty.int IntKind.i64) v5, AO.pv (Ty.int IntKind.i64) v6, AO.pv (Ty.int IntKind.i64) v7, AO.pv (Ty.int IntKind.i64) v8, AO.pv (Ty.int IntKind.i64) v9]), dd, AV.o (AO.box 23 [AO.pv Ty.str v10, AO.pv (Ty.int IntKind.i64) v11, AO.pv (Ty.int IntKind.i64) v12, AO.pv Ty.str v13, AO.pv Ty.str v14]), AV.o (AO.box 25 [AO.pv (Ty.int IntKind.i64) v15, AO.pv (Ty.int IntKind.i64) v16]), AV.o (AO.box 25 [AO.pv (Ty.int IntKind.i64) v17, AO.pv (Ty.int IntKind.i64) v18]), AV.o (AO.pv (Ty.int IntKind.i64) v19), dd, dd, dd, dd, dd, dd, dd, dd, dd, dd, dd, dd, AV.ptr 1 [] 9, AV.o (AO.pv (Ty.int IntKind.i64) v20), dd, dd, dd, dd, dd, dd, dd, dd, dd, dd, dd, dd, dd, dd, dd, dd, dd, dd, dd, dd, dd, dd, dd, dd, dd, AV.o (AO.pv Ty.bool v21), dd, dd, dd, dd, dd, dd, dd, dd, dd, dd, dd, dd, dd, dd, dd, dd, dd, dd, dd, dd, dd, dd, dd, dd, dd, dd, dd, dd, dd, dd, dd, dd, dd, dd, dd, dd, dd, dd, dd, dd, dd, dd, dd, dd, dd, dd, dd, dd, dd, dd, dd, dd, dd, dd, dd, dd, dd, dd, dd, dd, dd, dd, dd, dd, dd, dd, dd, dd, dd, dd, dd, dd, dd, dd, dd, dd, dd, dd, dd, dd, dd, dd, dd, dd, dd, dd, dd, dd, dd, dd, dd, dd, dd, dd, dd, dd, dd, dd, dd]
noncomputable def J5_6 (G : Gate) (call : CallF) (k : Nat) (v0 v1 v2 v3 v4 v5 v6 v7 v8 v9 v10 v11 v12 v13 v14 v15 v16 v17 v18 v19 v20 v21 : PV) : R := G 6 (regAt Tryd.prog call 5 [.b, .b, .b, .b, .b, .a, .b, .x, .a]) (SJ5_6 v0 v1 v2 v3 v4 v5 v6 v7 v8 v9 v10 v11 v12 v13 v14 v15 v16 v17 v18 v19 v20 v21) (behind Tryd.prog H0 G call k 5 [.b, .b, .b, .b, .b, .a, .b, .x, .a] .normal)
def SJ5_8 (v0 v1 v2 v3 v4 v5 v6 v7 v8 v9 v10 v11 v12 v13 v14 v15 v16 v17 v18 v19 : PV) : St := [dd, AV.o (AO.box 45 [AO.pv Ty.str v0, AO.pv (Ty.int IntKind.i64) v1, AO.pv (Ty.int IntKind.i64) v2, AO.pv Ty.str v3, AO.pv Ty.str v4, AO.pv (Ty.int IntKind.i64) v5, AO.pv (Ty.int IntKind.i64) v6, AO.pv (Ty.int IntKind.i64) v7, AO.pv (Ty.int IntKind.i64) v8, AO.pv (Ty.int IntKind.i64) v9]), dd, AV.o (AO.box 23 [AO.pv Ty.str v10, AO.pv (Ty.int IntKind.i64) v11, AO.pv (Ty.int IntKind.i64) v12, AO.pv Ty.str v13, AO.pv Ty.str v14]), AV.o (AO.box 25 [AO.pv (Ty.int IntKind.i64) v15, AO.pv (Ty.int IntKind.i64) v16]), dd, AV.o (AO.pv (Ty.int IntKind.i64) v17), dd, dd, dd, dd, dd, dd, dd, dd, dd, dd, dd, dd, AV.ptr 1 [] 9, AV.o (AO.pv (Ty.int IntKind.i64) v18), dd, dd, dd, dd, dd, dd, dd, dd, dd, dd, dd, dd, dd, dd, dd, dd, dd, dd, dd, dd, dd, dd, dd, dd, dd, dd, dd, dd, dd, dd, dd, dd, dd, dd, dd, dd, dd, dd, dd, dd, dd, dd, dd, dd, dd, dd, dd, dd, dd, dd, dd, dd, dd, dd, dd, dd, dd, dd, dd, dd, dd, dd, dd, AV.o (AO.pv Ty.bool v19), dd, dd, dd, dd, dd, dd, dd, dd, dd, dd, dd, dd, dd, dd, dd, dd, dd, dd, dd, dd, dd, dd, dd, dd, dd, dd, dd, dd, dd, dd, dd, dd, dd, dd, dd, dd, dd, dd, dd, dd, dd, dd, dd, dd, dd, dd, dd, dd, dd, dd, dd, dd, dd, dd, dd, dd, dd, dd, dd, dd, dd]
noncomputable def J5_8 (G : Gate) (call : CallF) (k : Nat) (v0 v1 v2 v3 v4 v5 v6 v7 v8 v9 v10 v11 v12 v13 v14 v15 v16 v17 v18 v19 : PV) : R := G 8 (regAt Tryd.prog call 5 [.b, .b, .b, .b, .b, .b, .a, .b, .x, .a]) (SJ5_8 v0 v1 v2 v3 v4 v5 v6 v7 v8 v9 v10 v11 v12 v13 v14 v15 v16 v17 v18 v19) (behind Tryd.prog H0 G call k 5 [.b, .b, .b, .b, .b, .b, .a, .b, .x, .a] .normal)
def SJ5_12 (v0 v1 v2 v3 v4 v5 v6 v7 v8 v9 v10 v11 v12 v13 v14 v15 v16 v17 v18 v19 v20 v21 v22 v23 : PV) : St := [dd, AV.o (AO.box 45 [AO.pv Ty.str v0, AO.pv (Ty.int IntKind.i64) v1, AO.pv (Ty.int IntKind.i64) v2, AO.pv Ty.str v3, AO.pv Ty.str v4, AO.pv (Ty.int IntKind.i64) v5, AO.pv (Ty.int IntKind.i64) v6, AO.pv (Ty.int IntKind.i64) v7, AO.pv (Ty.int IntKind.i64) v8, AO.pv (Ty.int IntKind.i64) v9]), dd, AV.o (AO.box 23 [AO.pv Ty.str v10, AO.pv (Ty.int IntKind.i64) v11, AO.pv (Ty.int IntKind.i64) v12, AO.pv Ty.str v13, AO.pv Ty.str v14]), AV.o (AO.box 25 [AO.pv (Ty.int IntKind.i64) v15, AO.pv (Ty.int IntKind.i64) v16]), dd, AV.o (AO.pv (Ty.int IntKind.i64) v17), AV.o (AO.box 25 [AO.pv (Ty.int IntKind.i64) v18, AO.pv (Ty.int IntKind.i64) v19]), dd, AV.o (AO.box 25 [AO.pv (Ty.int IntKind.i64) v20, AO.pv (Ty.int IntKind.i64) v21]), dd, dd, dd, dd, dd, dd, dd, dd, dd, AV.ptr 1 [] 9, AV.o (AO.pv (Ty.int IntKind.i64) v22), dd, dd, dd, dd, dd, dd, dd, dd, dd, dd, dd, dd, dd, dd, dd, dd, dd, dd, dd, dd, dd, dd, dd, dd, dd, dd, dd, dd, dd, dd, dd, dd, dd, dd, dd, dd, dd, dd, dd, dd, dd, dd, dd, dd, dd, dd, dd, dd, dd, dd, dd, dd, dd, dd, dd, dd, dd, dd, dd, dd, dd, dd, dd, dd, dd, dd, dd, dd, dd, dd, dd, dd, dd, dd, dd, dd, dd, dd, dd, dd, dd, AV.o (AO.pv Ty.bool v23), dd, dd, dd, dd, dd, dd, dd, dd, dd, dd, dd, dd, dd, dd, dd, dd, dd, dd, dd, dd, dd, dd, dd, dd, dd, dd, dd, dd, dd, dd, dd, dd, dd, dd, dd, dd, dd, dd, dd, dd, dd, dd, dd]
noncomputable def J5_12 (G : Gate) (call : CallF) (k : Nat) (v0 v1 v2 v3 v4 v5 v6 v7 v8 v9 v10 v11 v12 v13 v14 v15 v16 v17 v18 v19 v20 v21 v22 v23 : PV) : R := G 12 (regAt Tryd.prog call 5 [.b, .b, .b, .b, .b, .b, .b, .b, .b, .a, .b, .x, .a]) (SJ5_12 v0 v1 v2 v3 v4 v5 v6 v7 v8 v9 v10 v11 v12 v13 v14 v15 v16 v17 v18 v19 v20 v21 v22 v23) (behind Tryd.prog H0 G call k 5 [.b, .b, .b, .b, .b, .b, .b, .b, .b, .a, .b, .x, .a] .normal)
def SJ5_16 (v0 v1 v2 v3 v4 v5 v6 v7 v8 v9 v10 v11 v12 v13 v14 v15 v16 v17 v18 v19 v20 v21 : PV) : St := [dd, AV.o (AO.box 45 [AO.pv Ty.str v0, AO.pv (Ty.int IntKind.i64) v1, AO.pv (Ty.int IntKind.i64) v2, AO.pv Ty.str v3, AO.pv Ty.str v4, AO.pv (Ty.int IntKind.i64) v5, AO.pv (Ty.int IntKind.i64) v6, AO.pv (Ty.int IntKind.i64) v7, AO.pv (Ty.int IntKind.i64) v8, AO.pv (Ty.int IntKind.i64) v9]), dd, AV.o (AO.box 23 [AO.pv Ty.str v10, AO.pv (Ty.int IntKind.i64) v11, AO.pv (Ty.int IntKind.i64) v12, AO.pv Ty.str v13, AO.pv Ty.str v14]), dd, dd, AV.o (AO.pv (Ty.int IntKind.i64) v15), AV.o (AO.box 25 [AO.pv (Ty.int IntKind.i64) v16, AO.pv (Ty.int IntKind.i64) v17]), dd, AV.o (AO.box 25 [AO.pv (Ty.int IntKind.i64) v18, AO.pv (Ty.int IntKind.i64) v19]), dd, dd, dd, dd, dd, dd, dd, dd, dd, AV.ptr 1 [] 9, AV.o (AO.pv (Ty.int IntKind.i64) v20), dd, dd, dd, dd, dd, dd, dd, dd, dd, dd, dd, dd, dd, dd, dd, dd, dd, dd, dd, dd, dd, dd, dd, dd, dd, dd, dd, dd, dd, dd, dd, dd, dd, dd, dd, dd, dd, dd, dd, dd, dd, dd, dd, dd, dd, dd, dd, dd, dd, dd, dd, dd, dd, dd, dd, dd, dd, dd, dd, dd, dd, dd, dd, dd, dd, dd, dd, dd, dd, dd, dd, dd, dd, dd, dd, dd, dd, dd, dd, dd, dd, dd, dd, dd, dd, dd, dd, dd, dd, dd, dd, dd, dd, dd, dd, dd, dd, dd, dd, dd, dd, AV.o (AO.pv Ty.bool v21), dd, dd, dd, dd, dd, dd, dd, dd, dd, dd, dd, dd, dd, dd, dd, dd, dd, dd, dd, dd, dd, dd, dd]
noncomputable def J5_16 (G : Gate) (call : CallF) (k : Nat) (v0 v1 v2 v3 v4 v5 v6 v7 v8 v9 v10 v11 v12 v13 v14 v15 v16 v17 v18 v19 v20 v21 : PV) : R := G 16 (regAt Tryd.prog call 5 [.b, .b, .b, .b, .b, .b, .b, .b, .b, .b, .b, .b, .a, .b, .x, .a]) (SJ5_16 v0 v1 v2 v3 v4 v5 v6 v7 v8 v9 v10 v11 v12 v13 v14 v15 v16 v17 v18 v19 v20 v21) (behind Tryd.prog H0 G call k 5 [.b, .b, .b, .b, .b, .b, .b, .b, .b, .b, .b, .b, .a, .b, .x, .a] .normal)
def SJ5_17 (v0 v1 v2 v3 v4 v5 v6 v7 v8 v9 v10 v11 v12 v13 v14 v15 v16 v17 v18 v19 v20 : PV) : St := [dd, AV.o (AO.box 45 [AO.pv Ty.str v0, AO.pv (Ty.int IntKind.i64) v1, AO.pv (Ty.int IntKind.i64) v2, AO.pv Ty.str v3, AO.pv Ty.str v4, AO.pv (Ty.int IntKind.i64) v5, AO.pv (Ty.int IntKind.i64) v6, AO.pv (Ty.int IntKind.i64) v7, AO.pv (Ty.int IntKind.i64) v8, AO.pv (Ty.int IntKind.i64) v9]), dd, AV.o (AO.box 23 [AO.pv Ty.str v10, AO.pv (Ty.int IntKind.i64) v11, AO.pv (Ty.int IntKind.i64) v12, AO.pv Ty.str v13, AO.pv Ty.str v14]), dd, dd, AV.o (AO.pv (Ty.int IntKind.i64) v15), AV.o (AO.box 25 [AO.pv (Ty.int IntKind.i64) v16, AO.pv (Ty.int IntKind.i64) v17]), dd, AV.o (AO.box 25 [AO.pv (Ty.int IntKind.i64) v18, AO.pv (Ty.int IntKind.i64) v19]), dd, dd, dd, dd, dd, dd, dd, dd, dd, AV.ptr 1 [] 9, AV.o (AO.pv (Ty.int IntKind.i64) v20), dd, dd, dd, dd, dd, dd, dd, dd, dd, dd, dd, dd, dd, dd, dd, dd, dd, dd, dd, dd, dd, dd, dd, dd, dd, dd, dd, dd, dd, dd, dd, dd, dd, dd, dd, dd, dd, dd, dd, dd, dd, dd, dd, dd, dd, dd, dd, dd, dd, dd, dd, dd, dd, dd, dd, dd, dd, dd, dd, dd, dd, dd, dd, dd, dd, dd, dd, dd, dd, dd, dd, dd, dd, dd, dd, dd, dd, dd, dd, dd, dd, dd, dd, dd, dd, dd, dd, dd, dd, dd, dd, dd, dd, dd, dd, dd, dd, dd, dd, dd, dd, dd, dd, dd, dd, dd, dd, dd, dd, dd, dd, dd, dd, dd, dd, dd, dd, dd, dd, dd, dd, dd, dd, dd, dd]
noncomputable def J5_17 (G : Gate) (call : CallF) (k : Nat) (v0 v1 v2 v3 v4 v5 v6 v7 v8 v9 v10 v11 v12 v13 v14 v15 v16 v17 v18 v19 v20 : PV) : R := G 17 (regAt Tryd.prog call 5 [.b, .b, .b, .b, .b, .b, .b, .b, .b, .b, .b, .b, .b, .a]) (SJ5_17 v0 v1 v2 v3 v4 v5 v6 v7 v8 v9 v10 v11 v12 v13 v14 v15 v16 v17 v18 v19 v20) (behind Tryd.prog H0 G call k 5 [.b, .b, .b, .b, .b, .b, .b, .b, .b, .b, .b, .b, .b, .a] .normal)
def SJ5_13 (v0 v1 v2 v3 v4 v5 v6 v7 v8 v9 v10 v11 v12 v13 v14 v15 v16 v17 v18 v19 v20 v21 v22 : PV) : St := [dd, AV.o (AO.box 45 [AO.pv Ty.str v0, AO.pv (Ty.int IntKind.i64) v1, AO.pv (Ty.int IntKind.i64) v2, AO.pv Ty.str v3, AO.pv Ty.str v4, AO.pv (Ty.int IntKind.i64) v5, AO.pv (Ty.int IntKind.i64) v6, AO.pv (Ty.int IntKind.i64) v7, AO.pv (Ty.int IntKind.i64) v8, AO.pv (Ty.int IntKind.i64) v9]), dd, AV.o (AO.box 23 [AO.pv Ty.str v10, AO.pv (Ty.int IntKind.i64) v11, AO.pv (Ty.int IntKind.i64) v12, AO.pv Ty.str v13, AO.pv Ty.str v14]), AV.o (AO.box 25 [AO.pv (Ty.int IntKind.i64) v15, AO.pv (Ty.int IntKind.i64) v16]), dd, AV.o (AO.pv (Ty.int IntKind.i64) v17), AV.o (AO.box 25 [AO.pv (Ty.int IntKind.i64) v18, AO.pv (Ty.int IntKind.i64) v19]), dd, AV.o (AO.box 25 [AO.pv (Ty.int IntKind.i64) v20, AO.pv (Ty.int IntKind.i64) v21]), dd, dd, dd, dd, dd, dd, dd, dd, dd, AV.ptr 1 [] 9, AV.o (AO.pv (Ty.int IntKind.i64) v22), dd, dd, dd, dd, dd, dd, dd, dd, dd, dd, dd, dd, dd, dd, dd, dd, dd, dd, dd, dd, dd, dd, dd, dd, dd, dd, dd, dd, dd, dd, dd, dd, dd, dd, dd, dd, dd, dd, dd, dd, dd, dd, dd, dd, dd, dd, dd, dd, dd, dd, dd, dd, dd, dd, dd, dd, dd, dd, dd, dd, dd, dd, dd, dd, dd, dd, dd, dd, dd, dd, dd, dd, dd, dd, dd, dd, dd, dd, dd, dd, dd, dd, dd, dd, dd, dd, dd, dd, dd, dd, dd, dd, dd, dd, dd, dd, dd, dd, dd, dd, dd, dd, dd, dd, dd, dd, dd, dd, dd, dd, dd, dd, dd, dd, dd, dd, dd, dd, dd, dd, dd, dd, dd, dd, dd]
noncomputable def J5_13 (G : Gate) (call : CallF) (k : Nat) (v0 v1 v2 v3 v4 v5 v6 v7 v8 v9 v10 v11 v12 v13 v14 v15 v16 v17 v18 v19 v20 v21 v22 : PV) : R := G 13 (regAt Tryd.prog call 5 [.b, .b, .b, .b, .b, .b, .b, .b, .b, .b, .a]) (SJ5_13 v0 v1 v2 v3 v4 v5 v6 v7 v8 v9 v10 v11 v12 v13 v14 v15 v16 v17 v18 v19 v20 v21 v22) (behind Tryd.prog H0 G call k 5 [.b, .b, .b, .b, .b, .b, .b, .b, .b, .b, .a] .normal)
def SJ5_9 (v0 v1 v2 v3 v4 v5 v6 v7 v8 v9 v10 v11 v12 v13 v14 v15 v16 v17 v18 : PV) : St := [dd, AV.o (AO.box 45 [AO.pv Ty.str v0, AO.pv (Ty.int IntKind.i64) v1, AO.pv (Ty.int IntKind.i64) v2, AO.pv Ty.str v3, AO.pv Ty.str v4, AO.pv (Ty.int IntKind.i64) v5, AO.pv (Ty.int IntKind.i64) v6, AO.pv (Ty.int IntKind.i64) v7, AO.pv (Ty.int IntKind.i64) v8, AO.pv (Ty.int IntKind.i64) v9]), dd, AV.o (AO.box 23 [AO.pv Ty.str v10, AO.pv (Ty.int IntKind.i64) v11, AO.pv (Ty.int IntKind.i64) v12, AO.pv Ty.str v13, AO.pv Ty.str v14]), AV.o (AO.box 25 [AO.pv (Ty.int IntKind.i64) v15, AO.pv (Ty.int IntKind.i64) v16]), dd, AV.o (AO.pv (Ty.int IntKind.i64) v17), dd, dd, dd, dd, dd, dd, dd, dd, dd, dd, dd, dd, AV.ptr 1 [] 9, AV.o (AO.pv (Ty.int IntKind.i64) v18), dd, dd, dd, dd, dd, dd, dd, dd, dd, dd, dd, dd, dd, dd, dd, dd, dd, dd, dd, dd, dd, dd, dd, dd, dd, dd, dd, dd, dd, dd, dd, dd, dd, dd, dd, dd, dd, dd, dd, dd, dd, dd, dd, dd, dd, dd, dd, dd, dd, dd, dd, dd, dd, dd, dd, dd, dd, dd, dd, dd, dd, dd, dd, dd, dd, dd, dd, dd, dd, dd, dd, dd, dd, dd, dd, dd, dd, dd, dd, dd, dd, dd, dd, dd, dd, dd, dd, dd, dd, dd, dd, dd, dd, dd, dd, dd, dd, dd, dd, dd, dd, dd, dd, dd, dd, dd, dd, dd, dd, dd, dd, dd, dd, dd, dd, dd, dd, dd, dd, dd, dd, dd, dd, dd, dd]
noncomputable def J5_9 (G : Gate) (call : CallF) (k : Nat) (v0 v1 v2 v3 v4 v5 v6 v7 v8 v9 v10 v11 v12 v13 v14 v15 v16 v17 v18 : PV) : R := G 9 (regAt Tryd.prog call 5 [.b, .b, .b, .b, .b, .b, .b, .a]) (SJ5_9 v0 v1 v2 v3 v4 v5 v6 v7 v8 v9 v10 v11 v12 v13 v14 v15 v16 v17 v18) (behind Tryd.prog H0 G call k 5 [.b, .b, .b, .b, .b, .b, .b, .a] .normal)
def SJ5_7 (v0 v1 v2 v3 v4 v5 v6 v7 v8 v9 v10 v11 v12 v13 v14 v15 v16 v17 v18 v19 v20 : PV) : St := [dd, AV.o (AO.box 45 [AO.pv Ty.str v0, AO.pv (Ty.int IntKind.i64) v1, AO.pv (Ty.int IntKind.i64) v2, AO.pv Ty.str v3, AO.pv Ty.str v4, AO.pv (Ty.int IntKind.i64) v5, AO.pv (Ty.int IntKind.i64) v6, AO.pv (Ty.int IntKind.i64) v7, AO.pv (Ty.int IntKind.i64) v8, AO.pv (Ty.int IntKind.i64) v9]), dd, AV.o (AO.box 23 [AO.pv Ty.str v10, AO.pv (Ty.int IntKind.i64) v11, AO.pv (Ty.int IntKind.i64) v12, AO.pv Ty.str v13, AO.pv Ty.str v14]), AV.o (AO.box 25 [AO.pv (Ty.int IntKind.i64) v15, AO.pv (Ty.int IntKind.i64) v16]), AV.o (AO.box 25 [AO.pv (Ty.int IntKind.i64) v17, AO.pv (Ty.int IntKind.i64) v18]), AV.o (AO.pv (Ty.int IntKind.i64) v19), dd, dd, dd, dd, dd, dd, dd, dd, dd, dd, dd, dd, AV.ptr 1 [] 9, AV.o (AO.pv (Ty.int IntKind.i64) v20), dd, dd, dd, dd, dd, dd, dd, dd, dd, dd, dd, dd, dd, dd, dd, dd, dd, dd, dd, dd, dd, dd, dd, dd, dd, dd, dd, dd, dd, dd, dd, dd, dd, dd, dd, dd, dd, dd, dd, dd, dd, dd, dd, dd, dd, dd, dd, dd, dd, dd, dd, dd, dd, dd, dd, dd, dd, dd, dd, dd, dd, dd, dd, dd, dd, dd, dd, dd, dd, dd, dd, dd, dd, dd, dd, dd, dd, dd, dd, dd, dd, dd, dd, dd, dd, dd, dd, dd, dd, dd, dd, dd, dd, dd, dd, dd, dd, dd, dd, dd, dd, dd, dd, dd, dd, dd, dd, dd, dd, dd, dd, dd, dd, dd, dd, dd, dd, dd, dd, dd, dd, dd, dd, dd, dd]
noncomputable def J5_7 (G : Gate) (call : CallF) (k : Nat) (v0 v1 v2 v3 v4 v5 v6 v7 v8 v9 v10 v11 v12 v13 v14 v15 v16 v17 v18 v19 v20 : PV) : R := G 7 (regAt Tryd.prog call 5 [.b, .b, .b, .b, .b, .b, .a, .a]) (SJ5_7 v0 v1 v2 v3 v4 v5 v6 v7 v8 v9 v10 v11 v12 v13 v14 v15 v16 v17 v18 v19 v20) (behind Tryd.prog H0 G call k 5 [.b, .b, .b, .b, .b, .b, .a, .a] .normal)
theorem J5_6_eq (call : CallF) (k : Nat) (v0 v1 v2 v3 v4 v5 v6 v7 v8 v9 v10 v11 v12 v13 v14 v15 v16 v17 v18 v19 v20 v21 : PV) : J5_6 gate1 call k v0 v1 v2 v3 v4 v5 v6 v7 v8 v9 v10 v11 v12 v13 v14 v15 v16 v17 v18 v19 v20 v21 =
  some ([AO.pv Ty.bool (PV.bool false)], []) := by rw [J5_6, gate1_app]; kernel_rfl
theorem J5_8_eq (call : CallF) (k : Nat) (v0 v1 v2 v3 v4 v5 v6 v7 v8 v9 v10 v11 v12 v13 v14 v15 v16 v17 v18 v19 : PV) : J5_8 gate1 call k v0 v1 v2 v3 v4 v5 v6 v7 v8 v9 v10 v11 v12 v13 v14 v15 v16 v17 v18 v19 =
  some ([AO.pv Ty.bool (PV.bool false)], []) := by rw [J5_8, gate1_app]; kernel_rfl
theorem J5_12_eq (call : CallF) (k : Nat) (v0 v1 v2 v3 v4 v5 v6 v7 v8 v9 v10 v11 v12 v13 v14 v15 v16 v17 v18 v19 v20 v21 v22 v23 : PV) : J5_12 gate1 call k v0 v1 v2 v3 v4 v5 v6 v7 v8 v9 v10 v11 v12 v13 v14 v15 v16 v17 v18 v19 v20 v21 v22 v23 =
  some ([AO.pv Ty.bool (PV.bool false)], []) := by rw [J5_12, gate1_app]; kernel_rfl
theorem J5_16_eq (call : CallF) (k : Nat) (v0 v1 v2 v3 v4 v5 v6 v7 v8 v9 v10 v11 v12 v13 v14 v15 v16 v17 v18 v19 v20 v21 : PV) : J5_16 gate1 call k v0 v1 v2 v3 v4 v5 v6 v7 v8 v9 v10 v11 v12 v13 v14 v15 v16 v17 v18 v19 v20 v21 =
  some ([AO.pv Ty.bool (PV.bool false)], []) := by rw [J5_16, gate1_app]; kernel_rfl
theorem J5_17_eq (call : CallF) (k : Nat) (v0 v1 v2 v3 v4 v5 v6 v7 v8 v9 v10 v11 v12 v13 v14 v15 v16 v17 v18 v19 v20 : PV) : J5_17 gate1 call k v0 v1 v2 v3 v4 v5 v6 v7 v8 v9 v10 v11 v12 v13 v14 v15 v16 v17 v18 v19 v20 =
  let c20 := call 19 [AO.pv (Ty.st 23) (PV.agg [v10, v11, v12, v13, v14]), AO.pv (Ty.int IntKind.i64) v15]
  bif !Nat.beq 2 1 && okMany (List.map (tyOf Tryd.prog) #[25, 30].toList) c20 then
    let c21 := call 34 [AO.pv (Ty.st 23) (PV.agg [v10, v11, v12, v13, v14]), AO.pv (Ty.int IntKind.i64) v15]
    bif !Nat.beq 2 1 && okMany (List.map (tyOf Tryd.prog) #[25, 30].toList) c21 then
      bif eqI (((resAt 0 c20).cell 0).toInt) (((resAt 0 c21).cell 0).toInt) && eqI (((resAt 0 c20).cell 1).toInt) (((resAt 0 c21).cell 1).toInt) then
        bif eqI ((resAt 1 c20).toInt) ((resAt 1 c21).toInt) then
          let c22 := call 15 []
          bif okRes Ty.bool c22 then
            some ([AO.pv Ty.bool (resPV c22)], [])
          else
            none
        else
          some ([AO.pv Ty.bool (PV.bool false)], [])
      else
        some ([AO.pv Ty.bool (PV.bool false)], [])
    else
      none
  else
    none := by rw [J5_17, gate1_app]; kernel_rfl
theorem J5_13_eq (call : CallF) (k : Nat) (v0 v1 v2 v3 v4 v5 v6 v7 v8 v9 v10 v11 v12 v13 v14 v15 v16 v17 v18 v19 v20 v21 v22 : PV) : J5_13 gate1 call k v0 v1 v2 v3 v4 v5 v6 v7 v8 v9 v10 v11 v12 v13 v14 v15 v16 v17 v18 v19 v20 v21 v22 =
  let c18 := call 20 [AO.pv (Ty.st 23) (PV.agg [v10, v11, v12, v13, v14]), AO.pv (Ty.st 25) (PV.agg [v15, v16])]
  bif !Nat.beq 2 1 && okMany (List.map (tyOf Tryd.prog) #[3, 30].toList) c18 then
    let c19 := call 33 [AO.pv (Ty.st 23) (PV.agg [v10, v11, v12, v13, v14]), AO.pv (Ty.st 25) (PV.agg [v15, v16])]
    bif !Nat.beq 2 1 && okMany (List.map (tyOf Tryd.prog) #[3, 30].toList) c19 then
      bif !eqI ((resAt 0 c18).toInt) ((resAt 0 c19).toInt) then
        J5_16 gate1 call k (v0) (v1) (v2) (v3) (v4) (v5) (v6) (v7) (v8) (v9) (v10) (v11) (v12) (v13) (v14) (v17) (v18) (v19) (v20) (v21) (v22) (PV.bool true)
      else
        bif !eqI ((resAt 1 c18).toInt) ((resAt 1 c19).toInt) then
          J5_16 gate1 call k (v0) (v1) (v2) (v3) (v4) (v5) (v6) (v7) (v8) (v9) (v10) (v11) (v12) (v13) (v14) (v17) (v18) (v19) (v20) (v21) (v22) (PV.bool true)
        else
          J5_17 gate1 call k (v0) (v1) (v2) (v3) (v4) (v5) (v6) (v7) (v8) (v9) (v10) (v11) (v12) (v13) (v14) (v17) (v18) (v19) (v20) (v21) (v22)
    else
      none
  else
    none := by rw [J5_13, gate1_app]; kernel_rfl
theorem J5_9_eq (call : CallF) (k : Nat) (v0 v1 v2 v3 v4 v5 v6 v7 v8 v9 v10 v11 v12 v13 v14 v15 v16 v17 v18 : PV) : J5_9 gate1 call k v0 v1 v2 v3 v4 v5 v6 v7 v8 v9 v10 v11 v12 v13 v14 v15 v16 v17 v18 =
  let c16 := call 10 [AO.pv (Ty.st 23) (PV.agg [v10, v11, v12, v13, v14])]
  bif !Nat.beq 2 1 && okMany (List.map (tyOf Tryd.prog) #[25, 30].toList) c16 then
    let c17 := call 32 [AO.pv (Ty.st 23) (PV.agg [v10, v11, v12, v13, v14])]
    bif !Nat.beq 2 1 && okMany (List.map (tyOf Tryd.prog) #[25, 30].toList) c17 then
      bif !(eqI (((resAt 0 c16).cell 0).toInt) (((resAt 0 c17).cell 0).toInt) && eqI (((resAt 0 c16).cell 1).toInt) (((resAt 0 c17).cell 1).toInt)) then
        J5_12 gate1 call k (v0) (v1) (v2) (v3) (v4) (v5) (v6) (v7) (v8) (v9) (v10) (v11) (v12) (v13) (v14) (v15) (v16) (v17) ((resAt 0 c16).cell 0) ((resAt 0 c16).cell 1) ((resAt 0 c17).cell 0) ((resAt 0 c17).cell 1) (v18) (PV.bool true)
      else
        bif !eqI ((resAt 1 c16).toInt) ((resAt 1 c17).toInt) then
          J5_12 gate1 call k (v0) (v1) (v2) (v3) (v4) (v5) (v6) (v7) (v8) (v9) (v10) (v11) (v12) (v13) (v14) (v15) (v16) (v17) ((resAt 0 c16).cell 0) ((resAt 0 c16).cell 1) ((resAt 0 c17).cell 0) ((resAt 0 c17).cell 1) (v18) (PV.bool true)
        else
          J5_13 gate1 call k (v0) (v1) (v2) (v3) (v4) (v5) (v6) (v7) (v8) (v9) (v10) (v11) (v12) (v13) (v14) (v15) (v16) (v17) ((resAt 0 c16).cell 0) ((resAt 0 c16).cell 1) ((resAt 0 c17).cell 0) ((resAt 0 c17).cell 1) (v18)
    else
      none
  else
    none := by rw [J5_9, gate1_app]; kernel_rfl
theorem J5_7_eq (call : CallF) (k : Nat) (v0 v1 v2 v3 v4 v5 v6 v7 v8 v9 v10 v11 v12 v13 v14 v15 v16 v17 v18 v19 v20 : PV) : J5_7 gate1 call k v0 v1 v2 v3 v4 v5 v6 v7 v8 v9 v10 v11 v12 v13 v14 v15 v16 v17 v18 v19 v20 =
  let c8 := call 6 [AO.pv (Ty.st 23) (PV.agg [v10, v11, v12, v13, v14]), AO.pv (Ty.st 25) (PV.agg [v15, v16])]
  bif okRes (Ty.st 25) c8 then
    let c9 := call 26 [AO.pv (Ty.st 23) (PV.agg [v10, v11, v12, v13, v14]), AO.pv (Ty.st 25) (PV.agg [v15, v16])]
    bif okRes (Ty.st 25) c9 then
      bif !(eqI (((resPV c8).cell 0).toInt) (((resPV c9).cell 0).toInt) && eqI (((resPV c8).cell 1).toInt) (((resPV c9).cell 1).toInt)) then
        bif !(eqI (((resPV c8).cell 0).toInt) (((resPV c9).cell 0).toInt) && eqI (((resPV c8).cell 1).toInt) (((resPV c9).cell 1).toInt)) then
          J5_8 gate1 call k (v0) (v1) (v2) (v3) (v4) (v5) (v6) (v7) (v8) (v9) (v10) (v11) (v12) (v13) (v14) (v15) (v16) (v19) (v20) (PV.bool true)
        else
          none
      else
        let c10 := call 8 [AO.pv (Ty.st 23) (PV.agg [v10, v11, v12, v13, v14]), AO.pv (Ty.st 25) (PV.agg [v15, v16])]
        bif okRes Ty.bool c10 then
          let c11 := call 27 [AO.pv (Ty.st 23) (PV.agg [v10, v11, v12, v13, v14]), AO.pv (Ty.st 25) (PV.agg [v15, v16])]
          bif okRes Ty.bool c11 then
            bif !(eqI (((resPV c8).cell 0).toInt) (((resPV c9).cell 0).toInt) && eqI (((resPV c8).cell 1).toInt) (((resPV c9).cell 1).toInt)) then
              J5_8 gate1 call k (v0) (v1) (v2) (v3) (v4) (v5) (v6) (v7) (v8) (v9) (v10) (v11) (v12) (v13) (v14) (v15) (v16) (v19) (v20) (PV.bool true)
            else
              bif !(resPV c10).toBool == (resPV c11).toBool then
                bif !(resPV c10).toBool == (resPV c11).toBool then
                  J5_8 gate1 call k (v0) (v1) (v2) (v3) (v4) (v5) (v6) (v7) (v8) (v9) (v10) (v11) (v12) (v13) (v14) (v15) (v16) (v19) (v20) (PV.bool true)
                else
                  none
              else
                let c12 := call 28 [AO.pv (Ty.st 23) (PV.agg [v10, v11, v12, v13, v14]), AO.pv (Ty.st 25) (PV.agg [v15, v16]), AO.pv (Ty.st 25) (PV.agg [v17, v18])]
                bif okRes (Ty.st 25) c12 then
                  let c13 := call 29 [AO.pv (Ty.st 23) (PV.agg [v10, v11, v12, v13, v14]), AO.pv (Ty.st 25) (PV.agg [v15, v16]), AO.pv (Ty.st 25) (PV.agg [v17, v18])]
                  bif okRes (Ty.st 25) c13 then
                    bif !(resPV c10).toBool == (resPV c11).toBool then
                      J5_8 gate1 call k (v0) (v1) (v2) (v3) (v4) (v5) (v6) (v7) (v8) (v9) (v10) (v11) (v12) (v13) (v14) (v15) (v16) (v19) (v20) (PV.bool true)
                    else
                      bif !(eqI (((resPV c12).cell 0).toInt) (((resPV c13).cell 0).toInt) && eqI (((resPV c12).cell 1).toInt) (((resPV c13).cell 1).toInt)) then
                        bif !(eqI (((resPV c12).cell 0).toInt) (((resPV c13).cell 0).toInt) && eqI (((resPV c12).cell 1).toInt) (((resPV c13).cell 1).toInt)) then
                          J5_8 gate1 call k (v0) (v1) (v2) (v3) (v4) (v5) (v6) (v7) (v8) (v9) (v10) (v11) (v12) (v13) (v14) (v15) (v16) (v19) (v20) (PV.bool true)
                        else
                          none
                      else
                        let c14 := call 30 [AO.pv (Ty.st 23) (PV.agg [v10, v11, v12, v13, v14]), AO.pv (Ty.st 25) (PV.agg [v15, v16]), AO.pv (Ty.st 25) (PV.agg [v17, v18])]
                        bif okRes (Ty.st 25) c14 then
                          let c15 := call 31 [AO.pv (Ty.st 23) (PV.agg [v10, v11, v12, v13, v14]), AO.pv (Ty.st 25) (PV.agg [v15, v16]), AO.pv (Ty.st 25) (PV.agg [v17, v18])]
                          bif okRes (Ty.st 25) c15 then
                            bif !(eqI (((resPV c12).cell 0).toInt) (((resPV c13).cell 0).toInt) && eqI (((resPV c12).cell 1).toInt) (((resPV c13).cell 1).toInt)) then
                              J5_8 gate1 call k (v0) (v1) (v2) (v3) (v4) (v5) (v6) (v7) (v8) (v9) (v10) (v11) (v12) (v13) (v14) (v15) (v16) (v19) (v20) (PV.bool true)
                            else
                              bif !(eqI (((resPV c14).cell 0).toInt) (((resPV c15).cell 0).toInt) && eqI (((resPV c14).cell 1).toInt) (((resPV c15).cell 1).toInt)) then
                                J5_8 gate1 call k (v0) (v1) (v2) (v3) (v4) (v5) (v6) (v7) (v8) (v9) (v10) (v11) (v12) (v13) (v14) (v15) (v16) (v19) (v20) (PV.bool true)
                              else
                                J5_9 gate1 call k (v0) (v1) (v2) (v3) (v4) (v5) (v6) (v7) (v8) (v9) (v10) (v11) (v12) (v13) (v14) (v15) (v16) (v19) (v20)
                          else
                            none
                        else
                          none
                  else
                    none
                else
                  none
          else
            none
        else
          none
    else
      none
  else
    none := by rw [J5_7, gate1_app]; kernel_rfl
theorem R5 (call : CallF) (k : Nat) (x0 : PV) : evStep Tryd.prog H0 call k 5 [AO.pv (Ty.st 45) x0] =
  let c0 := call 16 [AO.pv (Ty.st 23) (PV.agg [x0.cell 0, x0.cell 1, x0.cell 2, x0.cell 3, x0.cell 4])]
  bif okRes Ty.bool c0 then
    let c1 := call 21 [AO.pv (Ty.st 23) (PV.agg [x0.cell 0, x0.cell 1, x0.cell 2, x0.cell 3, x0.cell 4])]
    bif okRes Ty.bool c1 then
      bif !(resPV c0).toBool == (resPV c1).toBool then
        bif !(resPV c0).toBool == (resPV c1).toBool then
          J5_6 gate1 call k (x0.cell 0) (x0.cell 1) (x0.cell 2) (x0.cell 3) (x0.cell 4) (x0.cell 5) (x0.cell 6) (x0.cell 7) (x0.cell 8) (x0.cell 9) (x0.cell 0) (x0.cell 1) (x0.cell 2) (x0.cell 3) (x0.cell 4) (x0.cell 5) (x0.cell 6) (x0.cell 7) (x0.cell 8) (x0.cell 9) (x0.cell 9) (PV.bool true)
        else
          none
      else
        let c2 := call 11 [AO.pv (Ty.st 23) (PV.agg [x0.cell 0, x0.cell 1, x0.cell 2, x0.cell 3, x0.cell 4])]
        bif okRes (Ty.st 25) c2 then
          let c3 := call 22 [AO.pv (Ty.st 23) (PV.agg [x0.cell 0, x0.cell 1, x0.cell 2, x0.cell 3, x0.cell 4])]
          bif okRes (Ty.st 25) c3 then
            bif !(resPV c0).toBool == (resPV c1).toBool then
              J5_6 gate1 call k (x0.cell 0) (x0.cell 1) (x0.cell 2) (x0.cell 3) (x0.cell 4) (x0.cell 5) (x0.cell 6) (x0.cell 7) (x0.cell 8) (x0.cell 9) (x0.cell 0) (x0.cell 1) (x0.cell 2) (x0.cell 3) (x0.cell 4) (x0.cell 5) (x0.cell 6) (x0.cell 7) (x0.cell 8) (x0.cell 9) (x0.cell 9) (PV.bool true)
            else
              bif !(eqI (((resPV c2).cell 0).toInt) (((resPV c3).cell 0).toInt) && eqI (((resPV c2).cell 1).toInt) (((resPV c3).cell 1).toInt)) then
                bif !(eqI (((resPV c2).cell 0).toInt) (((resPV c3).cell 0).toInt) && eqI (((resPV c2).cell 1).toInt) (((resPV c3).cell 1).toInt)) then
                  J5_6 gate1 call k (x0.cell 0) (x0.cell 1) (x0.cell 2) (x0.cell 3) (x0.cell 4) (x0.cell 5) (x0.cell 6) (x0.cell 7) (x0.cell 8) (x0.cell 9) (x0.cell 0) (x0.cell 1) (x0.cell 2) (x0.cell 3) (x0.cell 4) (x0.cell 5) (x0.cell 6) (x0.cell 7) (x0.cell 8) (x0.cell 9) (x0.cell 9) (PV.bool true)
                else
                  none
              else
                let c4 := call 12 [AO.pv (Ty.st 23) (PV.agg [x0.cell 0, x0.cell 1, x0.cell 2, x0.cell 3, x0.cell 4])]
                bif okRes (Ty.st 25) c4 then
                  let c5 := call 23 [AO.pv (Ty.st 23) (PV.agg [x0.cell 0, x0.cell 1, x0.cell 2, x0.cell 3, x0.cell 4])]
                  bif okRes (Ty.st 25) c5 then
                    bif !(eqI (((resPV c2).cell 0).toInt) (((resPV c3).cell 0).toInt) && eqI (((resPV c2).cell 1).toInt) (((resPV c3).cell 1).toInt)) then
                      J5_6 gate1 call k (x0.cell 0) (x0.cell 1) (x0.cell 2) (x0.cell 3) (x0.cell 4) (x0.cell 5) (x0.cell 6) (x0.cell 7) (x0.cell 8) (x0.cell 9) (x0.cell 0) (x0.cell 1) (x0.cell 2) (x0.cell 3) (x0.cell 4) (x0.cell 5) (x0.cell 6) (x0.cell 7) (x0.cell 8) (x0.cell 9) (x0.cell 9) (PV.bool true)
                    else
                      bif !(eqI (((resPV c4).cell 0).toInt) (((resPV c5).cell 0).toInt) && eqI (((resPV c4).cell 1).toInt) (((resPV c5).cell 1).toInt)) then
                        bif !(eqI (((resPV c4).cell 0).toInt) (((resPV c5).cell 0).toInt) && eqI (((resPV c4).cell 1).toInt) (((resPV c5).cell 1).toInt)) then
                          J5_6 gate1 call k (x0.cell 0) (x0.cell 1) (x0.cell 2) (x0.cell 3) (x0.cell 4) (x0.cell 5) (x0.cell 6) (x0.cell 7) (x0.cell 8) (x0.cell 9) (x0.cell 0) (x0.cell 1) (x0.cell 2) (x0.cell 3) (x0.cell 4) (x0.cell 5) (x0.cell 6) (x0.cell 7) (x0.cell 8) (x0.cell 9) (x0.cell 9) (PV.bool true)
                        else
                          none
                      else
                        let c6 := call 24 [AO.pv (Ty.st 23) (PV.agg [x0.cell 0, x0.cell 1, x0.cell 2, x0.cell 3, x0.cell 4])]
                        bif okRes (Ty.st 25) c6 then
                          let c7 := call 25 [AO.pv (Ty.st 23) (PV.agg [x0.cell 0, x0.cell 1, x0.cell 2, x0.cell 3, x0.cell 4])]
                          bif okRes (Ty.st 25) c7 then
                            bif !(eqI (((resPV c4).cell 0).toInt) (((resPV c5).cell 0).toInt) && eqI (((resPV c4).cell 1).toInt) (((resPV c5).cell 1).toInt)) then
                              J5_6 gate1 call k (x0.cell 0) (x0.cell 1) (x0.cell 2) (x0.cell 3) (x0.cell 4) (x0.cell 5) (x0.cell 6) (x0.cell 7) (x0.cell 8) (x0.cell 9) (x0.cell 0) (x0.cell 1) (x0.cell 2) (x0.cell 3) (x0.cell 4) (x0.cell 5) (x0.cell 6) (x0.cell 7) (x0.cell 8) (x0.cell 9) (x0.cell 9) (PV.bool true)
                            else
                              bif !(eqI (((resPV c6).cell 0).toInt) (((resPV c7).cell 0).toInt) && eqI (((resPV c6).cell 1).toInt) (((resPV c7).cell 1).toInt)) then
                                J5_6 gate1 call k (x0.cell 0) (x0.cell 1) (x0.cell 2) (x0.cell 3) (x0.cell 4) (x0.cell 5) (x0.cell 6) (x0.cell 7) (x0.cell 8) (x0.cell 9) (x0.cell 0) (x0.cell 1) (x0.cell 2) (x0.cell 3) (x0.cell 4) (x0.cell 5) (x0.cell 6) (x0.cell 7) (x0.cell 8) (x0.cell 9) (x0.cell 9) (PV.bool true)
                              else
                                J5_7 gate1 call k (x0.cell 0) (x0.cell 1) (x0.cell 2) (x0.cell 3) (x0.cell 4) (x0.cell 5) (x0.cell 6) (x0.cell 7) (x0.cell 8) (x0.cell 9) (x0.cell 0) (x0.cell 1) (x0.cell 2) (x0.cell 3) (x0.cell 4) (x0.cell 5) (x0.cell 6) (x0.cell 7) (x0.cell 8) (x0.cell 9) (x0.cell 9)
                          else
                            none
                        else
                          none
                  else
                    none
                else
                  none
          else
            none
        else
          none
    else
      none
  else
    none := by rw [evStep_eq]; kernel_rfl
end Go.V
