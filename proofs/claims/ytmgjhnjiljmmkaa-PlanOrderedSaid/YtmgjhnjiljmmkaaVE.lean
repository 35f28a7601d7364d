/- What the evaluator makes of functions of the program and of the reference, each as an equation of its own with its calls left open: first part. Conditions: those that each theorem names. (Names are short so that the claim keeps to its size.) -/
import Derived.Test.YtmgjhnjiljmmkaaVH
set_option linter.unusedSimpArgs false
set_option linter.unusedVariables false
set_option maxRecDepth 100000
namespace Go.V
open Go.Proofs
variable (call:aw) (k m1 m2 m3 n:Nat) (x0 x1 x2 x3 x4 x5 x6 x7 x8 x9:PV) (v0:PV) (w0:List PV) (u0:Nat) (v1:PV) (w1:List PV) (u1:Nat) (v2:PV) (w2:List PV) (u2:Nat) (v3:PV) (w3:List PV) (u3:Nat) (v4:PV) (w4:List PV) (u4:Nat) (v5:PV) (w5:List PV) (u5:Nat) (v6:PV) (w6:List PV) (u6:Nat) (v7:PV) (w7:List PV) (u7:Nat) (v8:PV) (w8:List PV) (u8:Nat) (v9:PV) (w9:List PV) (u9:Nat) (v10:PV) (w10:List PV) (u10:Nat) (v11:PV) (w11:List PV) (u11:Nat) (v12:PV) (w12:List PV) (u12:Nat) (v13:PV) (w13:List PV) (u13:Nat) (v14:PV) (w14:List PV) (u14:Nat) (v15:PV) (w15:List PV) (u15:Nat) (v16:PV) (w16:List PV) (u16:Nat) (v17:PV) (w17:List PV) (u17:Nat) (v18:PV) (w18:List PV) (u18:Nat) (v19:PV) (w19:List PV) (u19:Nat) (v20:PV) (w20:List PV) (u20:Nat) (v21:PV) (w21:List PV) (u21:Nat) (v22:PV) (w22:List PV) (u22:Nat) (v23:PV) (w23:List PV) (u23:Nat) (v24:PV) (w24:List PV) (u24:Nat) (v25:PV) (w25:List PV) (u25:Nat) (v26:PV) (w26:List PV) (u26:Nat) (v27:PV) (w27:List PV) (u27:Nat) (v28:PV) (w28:List PV) (u28:Nat) (v29:PV) (w29:List PV) (u29:Nat) (v30:PV) (w30:List PV) (u30:Nat) (v31:PV) (w31:List PV) (u31:Nat) (v32:PV) (w32:List PV) (u32:Nat) (v33:PV) (w33:List PV) (u33:Nat) (v34:PV) (w34:List PV) (u34:Nat) (v35:PV) (w35:List PV) (u35:Nat) (v36:PV) (w36:List PV) (u36:Nat) (v37:PV) (w37:List PV) (u37:Nat) (v38:PV) (w38:List PV) (u38:Nat) (v39:PV) (w39:List PV) (u39:Nat) (v40:PV) (w40:List PV) (u40:Nat) (v41:PV) (w41:List PV) (u41:Nat) (v42:PV) (w42:List PV) (u42:Nat) (v43:PV) (w43:List PV) (u43:Nat) (v44:PV) (w44:List PV) (u44:Nat) (v45:PV) (w45:List PV) (u45:Nat) (v46:PV) (w46:List PV) (u46:Nat) (v47:PV) (w47:List PV) (u47:Nat) (v48:PV) (w48:List PV) (u48:Nat) (v49:PV) (w49:List PV) (u49:Nat) (v50:PV) (w50:List PV) (u50:Nat) (v51:PV) (w51:List PV) (u51:Nat) (v52:PV) (w52:List PV) (u52:Nat) (v53:PV) (w53:List PV) (u53:Nat) (v54:PV) (w54:List PV) (u54:Nat) (v55:PV) (w55:List PV) (u55:Nat) (v56:PV) (w56:List PV) (u56:Nat) (v57:PV) (w57:List PV) (u57:Nat) (v58:PV) (w58:List PV) (u58:Nat) (v59:PV) (w59:List PV) (u59:Nat)
noncomputable def FQ:R:=lq call k 17 n [.b,.b,.a,.b,.aD,.lp m1,.b,.b,.a,.aD,.b,.b,.aD] (dd:: .o (.box 25 [.pv (.int .i64) v0, .pv (.sl 55) v1, .pv (.sl 3) v2])::dd::oI v3::dd:: .o (.box 55 [.pv Ty.str v4, .pv Ty.str v5, .pv (.int .i64) v6, .pv (.int .i64) v7, .pv (.sl 128) v8, .pv Ty.str v9, .pv (.int .i64) v10, .pv (.int .i64) v11, .pv Ty.str v12, .pv Ty.str v13, .pv (.sl 3) v14, .pv (.sl 25) v15])::ds 5 (AV.ptr 1 [] 1::oL 55 v16::oI v17::oI v18::dd::dd::dd:: .ptr 5 [] 11::oL 25 v19::oI v20::oI v21::ds 10 []))
noncomputable def By:R:=lq call k 17 n [.b,.b,.a,.b,.aD] (dd:: .o (.box 25 [.pv (.int .i64) v0, .pv (.sl 55) v1, .pv (.sl 3) v2])::dd::oI v3::ds 7 (AV.ptr 1 [] 1::oL 55 v4::oI v5::oI v6::ds 17 []))
theorem DU:FQ call k m1 (n+1) v0 v1 v2 v3 v4 v5 v6 v7 v8 v9 v10 v11 v12 v13 v14 v15 v16 v17 v18 v19 v20 v21=
 bif au (v21.toInt) (v20.toInt)then
 bif aj (0) (v21.toInt)&&au (v21.toInt) ((v19.toList.length:Int))then
 let c0:=call 17 [.pv (.st 25) (PV.agg [(nth default v19.toList v21.toInt.toNat).cell 0,(nth default v19.toList v21.toInt.toNat).cell 1,(nth default v19.toList v21.toInt.toNat).cell 2])]
 bif ab (.int .i64) c0 then
 FQ call k m1 n v0 v1 v2 (PV.int .i64 (IntKind.i64.wrap (v3.toInt+(aa c0).toInt))) v4 v5 v6 v7 v8 v9 v10 v11 v12 v13 v14 v15 v16 v17 v18 v19 v20 (PV.int .i64 (IntKind.i64.wrap (v21.toInt+1)))
 else
 none
 else
 none
 else
 By call k m1 v0 v1 v2 v3 v16 v17 (PV.int .i64 (IntKind.i64.wrap (v18.toInt+1))):=by kernel_rfl
theorem DV:By call k (n+1) v0 v1 v2 v3 v4 v5 v6=
 bif au (v6.toInt) (v5.toInt)then
 bif aj (0) (v6.toInt)&&au (v6.toInt) ((v4.toList.length:Int))then
 FQ call k n k v0 v1 v2 v3 ((nth default v4.toList v6.toInt.toNat).cell 0) ((nth default v4.toList v6.toInt.toNat).cell 1) ((nth default v4.toList v6.toInt.toNat).cell 2) ((nth default v4.toList v6.toInt.toNat).cell 3) ((nth default v4.toList v6.toInt.toNat).cell 4) ((nth default v4.toList v6.toInt.toNat).cell 5) ((nth default v4.toList v6.toInt.toNat).cell 6) ((nth default v4.toList v6.toInt.toNat).cell 7) ((nth default v4.toList v6.toInt.toNat).cell 8) ((nth default v4.toList v6.toInt.toNat).cell 9) ((nth default v4.toList v6.toInt.toNat).cell 10) ((nth default v4.toList v6.toInt.toNat).cell 11) v4 v5 v6 ((nth default v4.toList v6.toInt.toNat).cell 11) (PV.int .i64 (Nat.cast ((nth default v4.toList v6.toInt.toNat).cell 11).toList.length:Int)) (PV.int .i64 0)
 else
 none
 else
 some ([.pv (.int .i64) v3],[]):=by kernel_rfl
theorem R17:aW Try.prog H0 call k 17 [.pv (.st 25) x0]=
 By call k k (x0.cell 0) (x0.cell 1) (x0.cell 2) (PV.int .i64 ((x0.cell 1).toList.length:Int)) (x0.cell 1) (PV.int .i64 ((x0.cell 1).toList.length:Int)) (PV.int .i64 0):=by rw[aC];kernel_rfl
noncomputable def FR:R:=jn call k 37 3 [.b,.b,.a,.b,.x,.a] (dd::dd::dd:: .o (.box 94 [.arr 55 w0, .arr 9 w1])::ds 5 (AV.al 3 []::ds 8 (oB v2::ds 24 [])))
noncomputable def FT:R:=lq call k 37 n [.b,.b,.b,.a,.b,.aD,.lp m1,.b,.b,.a,.aD,.b,.b,.aD] (dd::dd::dd:: .o (.box 94 [.arr 55 w0, .arr 9 w1])::dd:: .o (.box 55 [.pv Ty.str v2, .pv Ty.str v3, .pv (.int .i64) v4, .pv (.int .i64) v5, .pv (.sl 128) v6, .pv Ty.str v7, .pv (.int .i64) v8, .pv (.int .i64) v9, .pv Ty.str v10, .pv Ty.str v11, .pv (.sl 3) v12, .pv (.sl 25) v13])::dd::dd::dd:: .al 3 []::ds 9 (AV.al 3 []:: .al 3 []:: .ptr 3 [] 0:: .al 3 [0]::oI v14::oI v15::dd::dd::dd:: .al 3 []:: .al 3 []:: .ptr 3 [] 1:: .al 3 [1]::oI v16::oI v17::ds 9 []))
noncomputable def Bz:R:=lq call k 37 n [.b,.b,.b,.a,.b,.aD] (dd::dd::dd:: .o (.box 94 [.arr 55 w0, .arr 9 w1])::ds 5 (AV.al 3 []::ds 9 (AV.al 3 []:: .al 3 []:: .ptr 3 [] 0:: .al 3 [0]::oI v2::oI v3::ds 18 [])))
theorem BA:FR call k w0 w1 v2=
 some ([.pv .bool (PV.bool false)],[]):=by rw[FR,aE];kernel_rfl
theorem DW:FT call k m1 (n+1) w0 w1 v2 v3 v4 v5 v6 v7 v8 v9 v10 v11 v12 v13 v14 v15 v16 v17=
 bif au (v17.toInt) (v16.toInt)then
 bif aj (0) (v17.toInt)&&au (v17.toInt) ((w1.length:Int))then
 bif v3.toStr.data.toList==(nth default w1 v17.toInt.toNat).toStr.data.toList then
 some ([.pv .bool (PV.bool false)],[])
 else
 FT call k m1 n w0 w1 v2 v3 v4 v5 v6 v7 v8 v9 v10 v11 v12 v13 v14 v15 v16 (PV.int .i64 (IntKind.i64.wrap (v17.toInt+1)))
 else
 none
 else
 Bz call k m1 w0 w1 v14 (PV.int .i64 (IntKind.i64.wrap (v15.toInt+1))):=by kernel_rfl
theorem DX:Bz call k (n+1) w0 w1 v2 v3=
 bif au (v3.toInt) (v2.toInt)then
 bif aj (0) (v3.toInt)&&au (v3.toInt) ((w0.length:Int))then
 FT call k n k w0 w1 ((nth default w0 v3.toInt.toNat).cell 0) ((nth default w0 v3.toInt.toNat).cell 1) ((nth default w0 v3.toInt.toNat).cell 2) ((nth default w0 v3.toInt.toNat).cell 3) ((nth default w0 v3.toInt.toNat).cell 4) ((nth default w0 v3.toInt.toNat).cell 5) ((nth default w0 v3.toInt.toNat).cell 6) ((nth default w0 v3.toInt.toNat).cell 7) ((nth default w0 v3.toInt.toNat).cell 8) ((nth default w0 v3.toInt.toNat).cell 9) ((nth default w0 v3.toInt.toNat).cell 10) ((nth default w0 v3.toInt.toNat).cell 11) v2 v3 (PV.int .i64 (w1.length:Int)) (PV.int .i64 0)
 else
 none
 else
 some ([.pv .bool (PV.bool true)],[]):=by kernel_rfl
theorem R37:aW Try.prog H0 call k 37 [.pv (.st 25) x0]=
 let c0:=call 48 [.pv (.st 25) (PV.agg [x0.cell 0,x0.cell 1,x0.cell 2]), .pv (.int .i64) (PV.int .i64 1), .box 94 [.arr 55 [], .arr 9 []]]
 bif eG (di [.pv (.st 25) (PV.agg [x0.cell 0,x0.cell 1,x0.cell 2]), .pv (.int .i64) (PV.int .i64 1), .box 94 [.arr 55 [], .arr 9 []]]) c0&&true then
 bif ab .bool c0 then
 bif !(aa c0).toBool then
 FR call k (cZ (ch (bD 0 c0) 0)) (cZ (ch (bD 0 c0) 1)) (PV.bool true)
 else
 let c1:=call 17 [.pv (.st 25) (PV.agg [x0.cell 0,x0.cell 1,x0.cell 2])]
 bif ab (.int .i64) c1 then
 bif au (2000) ((aa c1).toInt)then
 FR call k (cZ (ch (bD 0 c0) 0)) (cZ (ch (bD 0 c0) 1)) (PV.bool true)
 else
 Bz call k k (cZ (ch (bD 0 c0) 0)) (cZ (ch (bD 0 c0) 1)) (PV.int .i64 (Nat.cast (cZ (ch (bD 0 c0) 0)).length:Int)) (PV.int .i64 0)
 else
 none
 else
 none
 else
 none:=by rw[aC];kernel_rfl
noncomputable def K0:R:=jn call k 38 5 [.b,.b,.b,.a,.b,.aD,.lp n,.b,.b] (dd:: .o (.box 55 [.pv Ty.str v0, .pv Ty.str v1, .pv (.int .i64) v2, .pv (.int .i64) v3, .pv (.sl 128) v4, .pv Ty.str v5, .pv (.int .i64) v6, .pv (.int .i64) v7, .pv Ty.str v8, .pv Ty.str v9, .pv (.sl 3) v10, .pv (.sl 25) v11])::dd::dd::oI v12::oI v13::dd:: .o (.arr 3 w14)::oI v15::ds 81 ([AV.al 7 [],dd]))
noncomputable def ue:R:=jn call k 38 5 [.b,.b,.b,.a,.b,.aD,.lp n,.b,.b] (dd:: .o (.box 55 [.pv Ty.str v0, .pv Ty.str v1, .pv (.int .i64) v2, .pv (.int .i64) v3, .pv (.sl 128) v4, .pv Ty.str v5, .pv (.int .i64) v6, .pv (.int .i64) v7, .pv Ty.str v8, .pv Ty.str v9, .pv (.sl 3) v10, .pv (.sl 25) v11])::dd::dd::oI v12::oI v13::dd:: .o (.arr 3 w14)::oI v15::ds 83 [])
noncomputable def gR:R:=jn call k 38 20 [.b,.b,.b,.a,.b,.aD,.lp n,.b,.a,.aD,.b,.b,.a] (dd:: .o (.box 55 [.pv Ty.str v0, .pv Ty.str v1, .pv (.int .i64) v2, .pv (.int .i64) v3, .pv (.sl 128) v4, .pv Ty.str v5, .pv (.int .i64) v6, .pv (.int .i64) v7, .pv Ty.str v8, .pv Ty.str v9, .pv (.sl 3) v10, .pv (.sl 25) v11])::dd::dd::oI v12::oI v13::dd:: .o (.arr 3 w14)::oI v15::oB v16::ds 82 [])
noncomputable def BB:R:=lq call k 38 n [.b,.b,.b,.a,.b,.aD] (dd:: .o (.box 55 [.pv Ty.str v0, .pv Ty.str v1, .pv (.int .i64) v2, .pv (.int .i64) v3, .pv (.sl 128) v4, .pv Ty.str v5, .pv (.int .i64) v6, .pv (.int .i64) v7, .pv Ty.str v8, .pv Ty.str v9, .pv (.sl 3) v10, .pv (.sl 25) v11])::dd::dd::oI v12::oI v13::dd:: .o (.arr 3 w14)::oI v15::ds 83 [])
theorem K1:K0 call k n v0 v1 v2 v3 v4 v5 v6 v7 v8 v9 v10 v11 v12 v13 w14 v15=
 BB call k n v0 v1 v2 v3 v4 v5 v6 v7 v8 v9 v10 v11 v12 v13 w14 (PV.int .i64 (IntKind.i64.wrap (v15.toInt+1))):=by rw[K0,aE];kernel_rfl
theorem DY:ue call k n v0 v1 v2 v3 v4 v5 v6 v7 v8 v9 v10 v11 v12 v13 w14 v15=
 BB call k n v0 v1 v2 v3 v4 v5 v6 v7 v8 v9 v10 v11 v12 v13 w14 (PV.int .i64 (IntKind.i64.wrap (v15.toInt+1))):=by rw[ue,aE];kernel_rfl
theorem HO:gR call k n v0 v1 v2 v3 v4 v5 v6 v7 v8 v9 v10 v11 v12 v13 w14 v15 v16=
 bif v16.toBool then
 bif aj (0) (v15.toInt)&&au (v15.toInt) ((v10.toList.length:Int))then
 bif aj (0) ((nth default v10.toList v15.toInt.toNat).toInt)then
 bif aj (0) (v15.toInt)&&au (v15.toInt) ((v10.toList.length:Int))then
 bif Nat.beq 3 3&&AJ ((w14.length+[nth default v10.toList v15.toInt.toNat].reverse.length)*8) (room)then
 K0 call k n v0 v1 v2 v3 v4 v5 v6 v7 v8 v9 v10 v11 v12 v13 (w14++[nth default v10.toList v15.toInt.toNat].reverse) v15
 else
 none
 else
 none
 else
 ue call k n v0 v1 v2 v3 v4 v5 v6 v7 v8 v9 v10 v11 v12 v13 w14 v15
 else
 none
 else
 ue call k n v0 v1 v2 v3 v4 v5 v6 v7 v8 v9 v10 v11 v12 v13 w14 v15:=by rw[gR,aE];kernel_rfl
theorem DZ:BB call k (n+1) v0 v1 v2 v3 v4 v5 v6 v7 v8 v9 v10 v11 v12 v13 w14 v15=
 bif au (v15.toInt) ((v10.toList.length:Int))then
 bif v0.toStr.data.toList==(ByteArray.mk #[100,101,108,97,121]).data.toList then
 gR call k n v0 v1 v2 v3 v4 v5 v6 v7 v8 v9 v10 v11 v12 v13 w14 v15 (PV.bool (ak (v15.toInt) (v13.toInt)))
 else
 bif v0.toStr.data.toList==(ByteArray.mk #[118,97,114,121]).data.toList then
 bif ak (v15.toInt) (1)then
 gR call k n v0 v1 v2 v3 v4 v5 v6 v7 v8 v9 v10 v11 v12 v13 w14 v15 (PV.bool true)
 else
 bif ak (v15.toInt) (v13.toInt)then
 gR call k n v0 v1 v2 v3 v4 v5 v6 v7 v8 v9 v10 v11 v12 v13 w14 v15 (PV.bool true)
 else
 bif ak (v15.toInt) (0)then
 gR call k n v0 v1 v2 v3 v4 v5 v6 v7 v8 v9 v10 v11 v12 v13 w14 v15 (PV.bool (ak (v2.toInt) (0)))
 else
 gR call k n v0 v1 v2 v3 v4 v5 v6 v7 v8 v9 v10 v11 v12 v13 w14 v15 (PV.bool false)
 else
 bif v0.toStr.data.toList==(ByteArray.mk #[119,97,118,101]).data.toList then
 gR call k n v0 v1 v2 v3 v4 v5 v6 v7 v8 v9 v10 v11 v12 v13 w14 v15 (PV.bool (ak (v15.toInt) (v13.toInt)))
 else
 bif v0.toStr.data.toList==(ByteArray.mk #[115,116,111,114,101]).data.toList then
 bif ak (v15.toInt) (2)then
 gR call k n v0 v1 v2 v3 v4 v5 v6 v7 v8 v9 v10 v11 v12 v13 w14 v15 (PV.bool true)
 else
 gR call k n v0 v1 v2 v3 v4 v5 v6 v7 v8 v9 v10 v11 v12 v13 w14 v15 (PV.bool (ak (v15.toInt) (v13.toInt)))
 else
 bif v0.toStr.data.toList==(ByteArray.mk #[104,111,108,100]).data.toList then
 gR call k n v0 v1 v2 v3 v4 v5 v6 v7 v8 v9 v10 v11 v12 v13 w14 v15 (PV.bool true)
 else
 bif v0.toStr.data.toList==(ByteArray.mk #[115,104,111,119]).data.toList then
 gR call k n v0 v1 v2 v3 v4 v5 v6 v7 v8 v9 v10 v11 v12 v13 w14 v15 (PV.bool true)
 else
 bif v0.toStr.data.toList==(ByteArray.mk #[117,112]).data.toList then
 gR call k n v0 v1 v2 v3 v4 v5 v6 v7 v8 v9 v10 v11 v12 v13 w14 v15 (PV.bool true)
 else
 gR call k n v0 v1 v2 v3 v4 v5 v6 v7 v8 v9 v10 v11 v12 v13 w14 v15 (PV.bool !ak (v15.toInt) (v12.toInt))
 else
 some ([.arr 3 w14],[]):=by kernel_rfl
theorem R38:aW Try.prog H0 call k 38 [.pv (.st 55) x0]=
 let c0:=call 49 [.pv Ty.str (x0.cell 0), .pv (.int .i64) (PV.int .i64 ((x0.cell 10).toList.length:Int))]
 bif !Nat.beq 4 1&&cc (List.map (ai Try.prog) #[3,3,3,4].toList) c0 then
 BB call k k (x0.cell 0) (x0.cell 1) (x0.cell 2) (x0.cell 3) (x0.cell 4) (x0.cell 5) (x0.cell 6) (x0.cell 7) (x0.cell 8) (x0.cell 9) (x0.cell 10) (x0.cell 11) (bk 1 c0) (bk 2 c0) ([]) (PV.int .i64 0)
 else
 none:=by rw[aC];kernel_rfl
noncomputable def BC:R:=jn call k 49 5 [.b,.a,.b,.aD,.b,.x,.a] (oS v0::oI v1::ds 7 (oS v2::oB v3::ds 42 []))
noncomputable def FU:R:=jn call k 49 8 [.b,.a,.b,.aD,.b,.y,.b,.x,.a] (oS v0::oI v1::ds 7 (oS v2::ds 4 (oB v3::ds 38 [])))
noncomputable def y7:R:=jn call k 49 11 [.b,.a,.b,.aD,.b,.y,.b,.y,.b,.x,.a] (oS v0::oI v1::ds 7 (oS v2::ds 7 (oB v3::ds 35 [])))
noncomputable def y8:R:=jn call k 49 24 [.b,.a,.b,.aD,.b,.y,.b,.y,.b,.y,.b,.y,.b,.y,.b,.y,.b,.y,.b,.y,.b,.x,.a] (oS v0::ds 36 (oB v1::ds 15 []))
theorem K2:BC call k v0 v1 v2 v3=
 some ([.pv (.int .i64) (PV.int .i64 0), .pv (.int .i64) (PV.int .i64 (-1)), .pv (.int .i64) (PV.int .i64 (-1)), .pv .bool (PV.bool true)],[]):=by rw[BC,aE];kernel_rfl
theorem K3:FU call k v0 v1 v2 v3=
 some ([.pv (.int .i64) (PV.int .i64 1), .pv (.int .i64) (PV.int .i64 (-1)), .pv (.int .i64) (PV.int .i64 (-1)), .pv .bool (PV.bool true)],[]):=by rw[FU,aE];kernel_rfl
theorem HP:y7 call k v0 v1 v2 v3=
 some ([.pv (.int .i64) (PV.int .i64 3), .pv (.int .i64) (PV.int .i64 1), .pv (.int .i64) (PV.int .i64 2), .pv .bool (PV.bool true)],[]):=by rw[y7,aE];kernel_rfl
theorem HQ:y8 call k v0 v1=
 some ([.pv (.int .i64) (PV.int .i64 0), .pv (.int .i64) (PV.int .i64 0), .pv (.int .i64) (PV.int .i64 0), .pv .bool (PV.bool false)],[]):=by rw[y8,aE];kernel_rfl
theorem R49:aW Try.prog H0 call k 49 [.pv Ty.str x0, .pv (.int .i64) x1]=
 bif x0.toStr.data.toList==(ByteArray.mk #[105,110]).data.toList then
 BC call k x0 x1 x0 (PV.bool true)
 else
 bif x0.toStr.data.toList==(ByteArray.mk #[110,117,109]).data.toList then
 BC call k x0 x1 x0 (PV.bool true)
 else
 bif x0.toStr.data.toList==(ByteArray.mk #[107,110,111,98]).data.toList then
 BC call k x0 x1 x0 (PV.bool true)
 else
 bif x0.toStr.data.toList==(ByteArray.mk #[111,110]).data.toList then
 FU call k x0 x1 x0 (PV.bool true)
 else
 bif x0.toStr.data.toList==(ByteArray.mk #[112,97,114,116]).data.toList then
 FU call k x0 x1 x0 (PV.bool true)
 else
 bif x0.toStr.data.toList==(ByteArray.mk #[100,101,108,97,121]).data.toList then
 y7 call k x0 x1 x0 (PV.bool true)
 else
 bif x0.toStr.data.toList==(ByteArray.mk #[104,111,108,100]).data.toList then
 y7 call k x0 x1 x0 (PV.bool true)
 else
 bif x0.toStr.data.toList==(ByteArray.mk #[118,97,114,121]).data.toList then
 some ([.pv (.int .i64) (PV.int .i64 4), .pv (.int .i64) (PV.int .i64 2), .pv (.int .i64) (PV.int .i64 3), .pv .bool (PV.bool true)],[])
 else
 bif x0.toStr.data.toList==(ByteArray.mk #[119,97,118,101]).data.toList then
 some ([.pv (.int .i64) (PV.int .i64 2), .pv (.int .i64) (PV.int .i64 0), .pv (.int .i64) (PV.int .i64 1), .pv .bool (PV.bool true)],[])
 else
 bif x0.toStr.data.toList==(ByteArray.mk #[115,116,111,114,101]).data.toList then
 some ([.pv (.int .i64) (PV.int .i64 5), .pv (.int .i64) (PV.int .i64 3), .pv (.int .i64) (PV.int .i64 4), .pv .bool (PV.bool true)],[])
 else
 bif x0.toStr.data.toList==(ByteArray.mk #[115,104,111,119]).data.toList then
 some ([.pv (.int .i64) (PV.int .i64 2), .pv (.int .i64) (PV.int .i64 1), .pv (.int .i64) (PV.int .i64 (-1)), .pv .bool (PV.bool true)],[])
 else
 bif x0.toStr.data.toList==(ByteArray.mk #[117,112]).data.toList then
 some ([.pv (.int .i64) x1, .pv (.int .i64) (PV.int .i64 (IntKind.i64.wrap (x1.toInt-2))), .pv (.int .i64) (PV.int .i64 (IntKind.i64.wrap (x1.toInt-1))), .pv .bool (PV.bool (aj (2) (x1.toInt)))],[])
 else
 bif x0.toStr.data.toList==(ByteArray.mk #[119,105,114,101]).data.toList then
 y8 call k x0 (PV.bool true)
 else
 bif x0.toStr.data.toList==(ByteArray.mk #[99,117,116]).data.toList then
 y8 call k x0 (PV.bool true)
 else
 let c0:=call 67 [.pv Ty.str x0]
 bif !Nat.beq 2 1&&cc (List.map (ai Try.prog) #[121,4].toList) c0 then
 bif (bk 1 c0).toBool then
 bif (bk 1 c0).toBool then
 some ([.pv (.int .i64) ((bk 0 c0).cell 0), .pv (.int .i64) (PV.int .i64 (-1)), .pv (.int .i64) (PV.int .i64 (-1)), .pv .bool (PV.bool (ak (((bk 0 c0).cell 2).toInt) (0)))],[])
 else
 some ([.pv (.int .i64) ((bk 0 c0).cell 0), .pv (.int .i64) (PV.int .i64 (-1)), .pv (.int .i64) (PV.int .i64 (-1)), .pv .bool (PV.bool false)],[])
 else
 bif (bk 1 c0).toBool then
 none
 else
 some ([.pv (.int .i64) ((bk 0 c0).cell 0), .pv (.int .i64) (PV.int .i64 (-1)), .pv (.int .i64) (PV.int .i64 (-1)), .pv .bool (PV.bool false)],[])
 else
 none:=by rw[aC];kernel_rfl
noncomputable def FV:R:=lq call k 50 n [.b,.b,.a,.b,.aD,.lp m1,.b,.b,.a,.aD,.b,.b,.aD] (dd:: .o (.box 25 [.pv (.int .i64) v0, .pv (.sl 55) v1, .pv (.sl 3) v2])::dd::oI v3::dd:: .o (.box 55 [.pv Ty.str v4, .pv Ty.str v5, .pv (.int .i64) v6, .pv (.int .i64) v7, .pv (.sl 128) v8, .pv Ty.str v9, .pv (.int .i64) v10, .pv (.int .i64) v11, .pv Ty.str v12, .pv Ty.str v13, .pv (.sl 3) v14, .pv (.sl 25) v15])::ds 5 (AV.ptr 1 [] 1::oL 55 v16::oI v17::oI v18::dd::dd::dd:: .ptr 5 [] 11::oL 25 v19::oI v20::oI v21::ds 10 []))
noncomputable def BD:R:=lq call k 50 n [.b,.b,.a,.b,.aD] (dd:: .o (.box 25 [.pv (.int .i64) v0, .pv (.sl 55) v1, .pv (.sl 3) v2])::dd::oI v3::ds 7 (AV.ptr 1 [] 1::oL 55 v4::oI v5::oI v6::ds 17 []))
theorem D0:FV call k m1 (n+1) v0 v1 v2 v3 v4 v5 v6 v7 v8 v9 v10 v11 v12 v13 v14 v15 v16 v17 v18 v19 v20 v21=
 bif au (v21.toInt) (v20.toInt)then
 bif aj (0) (v21.toInt)&&au (v21.toInt) ((v19.toList.length:Int))then
 let c0:=call 50 [.pv (.st 25) (PV.agg [(nth default v19.toList v21.toInt.toNat).cell 0,(nth default v19.toList v21.toInt.toNat).cell 1,(nth default v19.toList v21.toInt.toNat).cell 2])]
 bif ab (.int .i64) c0 then
 FV call k m1 n v0 v1 v2 (PV.int .i64 (IntKind.i64.wrap (v3.toInt+(aa c0).toInt))) v4 v5 v6 v7 v8 v9 v10 v11 v12 v13 v14 v15 v16 v17 v18 v19 v20 (PV.int .i64 (IntKind.i64.wrap (v21.toInt+1)))
 else
 none
 else
 none
 else
 BD call k m1 v0 v1 v2 v3 v16 v17 (PV.int .i64 (IntKind.i64.wrap (v18.toInt+1))):=by kernel_rfl
theorem D1:BD call k (n+1) v0 v1 v2 v3 v4 v5 v6=
 bif au (v6.toInt) (v5.toInt)then
 bif aj (0) (v6.toInt)&&au (v6.toInt) ((v4.toList.length:Int))then
 FV call k n k v0 v1 v2 v3 ((nth default v4.toList v6.toInt.toNat).cell 0) ((nth default v4.toList v6.toInt.toNat).cell 1) ((nth default v4.toList v6.toInt.toNat).cell 2) ((nth default v4.toList v6.toInt.toNat).cell 3) ((nth default v4.toList v6.toInt.toNat).cell 4) ((nth default v4.toList v6.toInt.toNat).cell 5) ((nth default v4.toList v6.toInt.toNat).cell 6) ((nth default v4.toList v6.toInt.toNat).cell 7) ((nth default v4.toList v6.toInt.toNat).cell 8) ((nth default v4.toList v6.toInt.toNat).cell 9) ((nth default v4.toList v6.toInt.toNat).cell 10) ((nth default v4.toList v6.toInt.toNat).cell 11) v4 v5 v6 ((nth default v4.toList v6.toInt.toNat).cell 11) (PV.int .i64 (Nat.cast ((nth default v4.toList v6.toInt.toNat).cell 11).toList.length:Int)) (PV.int .i64 0)
 else
 none
 else
 some ([.pv (.int .i64) v3],[]):=by kernel_rfl
theorem R50:aW Try.prog H0 call k 50 [.pv (.st 25) x0]=
 BD call k k (x0.cell 0) (x0.cell 1) (x0.cell 2) (PV.int .i64 ((x0.cell 1).toList.length:Int)) (x0.cell 1) (PV.int .i64 ((x0.cell 1).toList.length:Int)) (PV.int .i64 0):=by rw[aC];kernel_rfl
noncomputable def FW:R:=jn call k 64 3 [.b,.b,.a,.b,.x,.a] (dd:: .o (.box 55 [.pv Ty.str v0, .pv Ty.str v1, .pv (.int .i64) v2, .pv (.int .i64) v3, .pv (.sl 128) v4, .pv Ty.str v5, .pv (.int .i64) v6, .pv (.int .i64) v7, .pv Ty.str v8, .pv Ty.str v9, .pv (.sl 3) v10, .pv (.sl 25) v11])::ds 27 (oB v12::ds 97 []))
noncomputable def FY:R:=jn call k 64 8 [.b,.b,.b,.b,.a,.b,.aD,.b,.x,.a] (dd:: .o (.box 55 [.pv Ty.str v0, .pv Ty.str v1, .pv (.int .i64) v2, .pv (.int .i64) v3, .pv (.sl 128) v4, .pv Ty.str v5, .pv (.int .i64) v6, .pv (.int .i64) v7, .pv Ty.str v8, .pv Ty.str v9, .pv (.sl 3) v10, .pv (.sl 25) v11])::ds 5 (oB v12::ds 43 (oS v13::oB v14::ds 74 [])))
noncomputable def y9:R:=jn call k 64 11 [.b,.b,.b,.b,.a,.b,.aD,.b,.y,.b,.x,.a] (dd:: .o (.box 55 [.pv Ty.str v0, .pv Ty.str v1, .pv (.int .i64) v2, .pv (.int .i64) v3, .pv (.sl 128) v4, .pv Ty.str v5, .pv (.int .i64) v6, .pv (.int .i64) v7, .pv Ty.str v8, .pv Ty.str v9, .pv (.sl 3) v10, .pv (.sl 25) v11])::ds 5 (oB v12::ds 43 (oS v13::ds 10 (oB v14::ds 64 []))))
noncomputable def vm:R:=jn call k 64 17 [.b,.b,.b,.b,.b,.a] (dd:: .o (.box 55 [.pv Ty.str v0, .pv Ty.str v1, .pv (.int .i64) v2, .pv (.int .i64) v3, .pv (.sl 128) v4, .pv Ty.str v5, .pv (.int .i64) v6, .pv (.int .i64) v7, .pv Ty.str v8, .pv Ty.str v9, .pv (.sl 3) v10, .pv (.sl 25) v11])::ds 125 [])
noncomputable def xT:R:=jn call k 64 5 [.b,.b,.b,.b,.a,.a] (dd:: .o (.box 55 [.pv Ty.str v0, .pv Ty.str v1, .pv (.int .i64) v2, .pv (.int .i64) v3, .pv (.sl 128) v4, .pv Ty.str v5, .pv (.int .i64) v6, .pv (.int .i64) v7, .pv Ty.str v8, .pv Ty.str v9, .pv (.sl 3) v10, .pv (.sl 25) v11])::ds 5 (oB v12::ds 119 []))
theorem K4:FW call k v0 v1 v2 v3 v4 v5 v6 v7 v8 v9 v10 v11 v12=
 some ([.pv .bool (PV.bool false)],[]):=by rw[FW,aE];kernel_rfl
theorem K5:FY call k v0 v1 v2 v3 v4 v5 v6 v7 v8 v9 v10 v11 v12 v13 v14=
 bif v12.toBool then
 some ([.pv .bool (PV.bool (ak ((v11.toList.length:Int)) (0)))],[])
 else
 some ([.pv .bool (PV.bool false)],[]):=by rw[FY,aE];kernel_rfl
theorem HR:y9 call k v0 v1 v2 v3 v4 v5 v6 v7 v8 v9 v10 v11 v12 v13 v14=
 bif v12.toBool then
 bif ak (v2.toInt) (0)then
 some ([.pv .bool (PV.bool (ak ((v11.toList.length:Int)) (0)))],[])
 else
 some ([.pv .bool (PV.bool false)],[])
 else
 some ([.pv .bool (PV.bool false)],[]):=by rw[y9,aE];kernel_rfl
theorem HS:vm call k v0 v1 v2 v3 v4 v5 v6 v7 v8 v9 v10 v11=
 let c1:=call 67 [.pv Ty.str v0]
 bif cc (List.map (ai Try.prog) #[121,4].toList) c1 then
 bif ak ((v11.toList.length:Int)) (0)then
 let c2:=call 77 [.pv (.st 121) (PV.agg [(bk 0 c1).cell 0,(bk 0 c1).cell 1,(bk 0 c1).cell 2,(bk 0 c1).cell 3,(bk 0 c1).cell 4,(bk 0 c1).cell 5,(bk 0 c1).cell 6,(bk 0 c1).cell 7,(bk 0 c1).cell 8]), .pv Ty.str v0, .pv Ty.str v1, .pv (.int .i64) v2, .pv (.int .i64) v3, .pv (.sl 128) v4, .pv (.st 52) (PV.agg [v5,v6,v7,v8,v9])]
 bif ab .bool c2 then
 some ([.pv .bool (aa c2)],[])
 else
 none
 else
 some ([.pv .bool (PV.bool false)],[])
 else
 none:=by rw[vm,aE];kernel_rfl
theorem K6:xT call k v0 v1 v2 v3 v4 v5 v6 v7 v8 v9 v10 v11 v12=
 bif v0.toStr.data.toList==(ByteArray.mk #[105,110]).data.toList then
 FY call k v0 v1 v2 v3 v4 v5 v6 v7 v8 v9 v10 v11 v12 v0 (PV.bool true)
 else
 bif v0.toStr.data.toList==(ByteArray.mk #[112,97,114,116]).data.toList then
 FY call k v0 v1 v2 v3 v4 v5 v6 v7 v8 v9 v10 v11 v12 v0 (PV.bool true)
 else
 bif v0.toStr.data.toList==(ByteArray.mk #[111,110]).data.toList then
 y9 call k v0 v1 v2 v3 v4 v5 v6 v7 v8 v9 v10 v11 v12 v0 (PV.bool true)
 else
 bif v0.toStr.data.toList==(ByteArray.mk #[104,111,108,100]).data.toList then
 y9 call k v0 v1 v2 v3 v4 v5 v6 v7 v8 v9 v10 v11 v12 v0 (PV.bool true)
 else
 bif v0.toStr.data.toList==(ByteArray.mk #[117,112]).data.toList then
 bif v12.toBool then
 bif aj (2) (v2.toInt)then
 bif aj (v2.toInt) (8)then
 some ([.pv .bool (PV.bool (ak ((v11.toList.length:Int)) (1)))],[])
 else
 some ([.pv .bool (PV.bool false)],[])
 else
 some ([.pv .bool (PV.bool false)],[])
 else
 some ([.pv .bool (PV.bool false)],[])
 else
 bif v0.toStr.data.toList==(ByteArray.mk #[100,101,108,97,121]).data.toList then
 bif au (v2.toInt) (1)then
 some ([.pv .bool (PV.bool false)],[])
 else
 vm call k v0 v1 v2 v3 v4 v5 v6 v7 v8 v9 v10 v11
 else
 vm call k v0 v1 v2 v3 v4 v5 v6 v7 v8 v9 v10 v11:=by rw[xT,aE];kernel_rfl
theorem R64:aW Try.prog H0 call k 64 [.pv (.st 55) x0]=
 let c0:=call 49 [.pv Ty.str (x0.cell 0), .pv (.int .i64) (PV.int .i64 ((x0.cell 10).toList.length:Int))]
 bif cc (List.map (ai Try.prog) #[3,3,3,4].toList) c0 then
 bif !(bk 3 c0).toBool then
 FW call k (x0.cell 0) (x0.cell 1) (x0.cell 2) (x0.cell 3) (x0.cell 4) (x0.cell 5) (x0.cell 6) (x0.cell 7) (x0.cell 8) (x0.cell 9) (x0.cell 10) (x0.cell 11) (PV.bool true)
 else
 bif !ak (((x0.cell 10).toList.length:Int)) ((bk 0 c0).toInt)then
 FW call k (x0.cell 0) (x0.cell 1) (x0.cell 2) (x0.cell 3) (x0.cell 4) (x0.cell 5) (x0.cell 6) (x0.cell 7) (x0.cell 8) (x0.cell 9) (x0.cell 10) (x0.cell 11) (PV.bool true)
 else
 bif (x0.cell 1).toStr.data.toList==(ByteArray.mk #[]).data.toList then
 bif ak ((x0.cell 3).toInt) (0)then
 bif ak (((x0.cell 4).toList.length:Int)) (0)then
 xT call k (x0.cell 0) (x0.cell 1) (x0.cell 2) (x0.cell 3) (x0.cell 4) (x0.cell 5) (x0.cell 6) (x0.cell 7) (x0.cell 8) (x0.cell 9) (x0.cell 10) (x0.cell 11) (PV.bool ((x0.cell 5).toStr.data.toList==(ByteArray.mk #[]).data.toList&&(ak ((x0.cell 6).toInt) (0)&&(ak ((x0.cell 7).toInt) (0)&&((x0.cell 8).toStr.data.toList==(ByteArray.mk #[]).data.toList&&(x0.cell 9).toStr.data.toList==(ByteArray.mk #[]).data.toList)))))
 else
 xT call k (x0.cell 0) (x0.cell 1) (x0.cell 2) (x0.cell 3) (x0.cell 4) (x0.cell 5) (x0.cell 6) (x0.cell 7) (x0.cell 8) (x0.cell 9) (x0.cell 10) (x0.cell 11) (PV.bool false)
 else
 xT call k (x0.cell 0) (x0.cell 1) (x0.cell 2) (x0.cell 3) (x0.cell 4) (x0.cell 5) (x0.cell 6) (x0.cell 7) (x0.cell 8) (x0.cell 9) (x0.cell 10) (x0.cell 11) (PV.bool false)
 else
 xT call k (x0.cell 0) (x0.cell 1) (x0.cell 2) (x0.cell 3) (x0.cell 4) (x0.cell 5) (x0.cell 6) (x0.cell 7) (x0.cell 8) (x0.cell 9) (x0.cell 10) (x0.cell 11) (PV.bool false)
 else
 none:=by rw[aC];kernel_rfl
noncomputable def BE:R:=jn call k 65 7 [.b,.b,.a,.b,.aD,.lp n,.b,.a,.aD,.b,.x,.a] (oL 128 v0::oL 128 v1::dd::dd::dd::oI v2::ds 33 ([oB v3]))
noncomputable def vn:R:=jn call k 65 5 [.b,.b,.a,.b,.aD,.lp n,.b,.b] (oL 128 v0::oL 128 v1::dd::dd::dd::oI v2::ds 34 [])
noncomputable def FZ:R:=lq call k 65 n [.b,.b,.a,.b,.aD] (oL 128 v0::oL 128 v1::dd::dd::dd::oI v2::ds 34 [])
theorem K7:BE call k n v0 v1 v2 v3=
 some ([.pv .bool (PV.bool false)],[]):=by rw[BE,aE];kernel_rfl
theorem K8:vn call k n v0 v1 v2=
 FZ call k n v0 v1 (PV.int .i64 (IntKind.i64.wrap (v2.toInt+1))):=by rw[vn,aE];kernel_rfl
theorem D2:FZ call k (n+1) v0 v1 v2=
 bif au (v2.toInt) ((v0.toList.length:Int))then
 bif aj (0) (v2.toInt)&&au (v2.toInt) ((v0.toList.length:Int))then
 bif aj (0) (v2.toInt)&&au (v2.toInt) ((v1.toList.length:Int))then
 bif !(ak (((nth default v0.toList v2.toInt.toNat).cell 0).toInt) (((nth default v1.toList v2.toInt.toNat).cell 0).toInt)&&ak (((nth default v0.toList v2.toInt.toNat).cell 1).toInt) (((nth default v1.toList v2.toInt.toNat).cell 1).toInt))then
 bif aj (0) (v2.toInt)&&au (v2.toInt) ((v0.toList.length:Int))then
 let c0:=call 78 [.pv (.st 128) (nth default v0.toList v2.toInt.toNat)]
 bif ab .bool c0 then
 bif (aa c0).toBool then
 bif (aa c0).toBool then
 bif !(ak (((nth default v0.toList v2.toInt.toNat).cell 0).toInt) (((nth default v1.toList v2.toInt.toNat).cell 0).toInt)&&ak (((nth default v0.toList v2.toInt.toNat).cell 1).toInt) (((nth default v1.toList v2.toInt.toNat).cell 1).toInt))then
 BE call k n v0 v1 v2 (PV.bool true)
 else
 vn call k n v0 v1 v2
 else
 none
 else
 bif aj (0) (v2.toInt)&&au (v2.toInt) ((v1.toList.length:Int))then
 let c1:=call 78 [.pv (.st 128) (nth default v1.toList v2.toInt.toNat)]
 bif ab .bool c1 then
 bif (aa c0).toBool then
 bif !(ak (((nth default v0.toList v2.toInt.toNat).cell 0).toInt) (((nth default v1.toList v2.toInt.toNat).cell 0).toInt)&&ak (((nth default v0.toList v2.toInt.toNat).cell 1).toInt) (((nth default v1.toList v2.toInt.toNat).cell 1).toInt))then
 BE call k n v0 v1 v2 (PV.bool true)
 else
 vn call k n v0 v1 v2
 else
 bif !(ak (((nth default v0.toList v2.toInt.toNat).cell 0).toInt) (((nth default v1.toList v2.toInt.toNat).cell 0).toInt)&&ak (((nth default v0.toList v2.toInt.toNat).cell 1).toInt) (((nth default v1.toList v2.toInt.toNat).cell 1).toInt))then
 bif (aa c1).toBool then
 BE call k n v0 v1 v2 (PV.bool true)
 else
 vn call k n v0 v1 v2
 else
 vn call k n v0 v1 v2
 else
 none
 else
 none
 else
 none
 else
 none
 else
 bif !(ak (((nth default v0.toList v2.toInt.toNat).cell 0).toInt) (((nth default v1.toList v2.toInt.toNat).cell 0).toInt)&&ak (((nth default v0.toList v2.toInt.toNat).cell 1).toInt) (((nth default v1.toList v2.toInt.toNat).cell 1).toInt))then
 none
 else
 vn call k n v0 v1 v2
 else
 none
 else
 none
 else
 some ([.pv .bool (PV.bool true)],[]):=by kernel_rfl
theorem R65:aW Try.prog H0 call k 65 [.pv (.sl 128) x0, .pv (.sl 128) x1]=
 bif !ak ((x0.toList.length:Int)) ((x1.toList.length:Int))then
 some ([.pv .bool (PV.bool false)],[])
 else
 FZ call k k x0 x1 (PV.int .i64 0):=by rw[aC];kernel_rfl
noncomputable def F7:R:=jn call k 66 6 [.b,.b,.b,.aD,.lp m1,.aD,.b,.a,.b,.aD,.lp n,.b,.b] (dd:: .o (.box 25 [.pv (.int .i64) v0, .pv (.sl 55) v1, .pv (.sl 3) v2])::dd:: .o (.arr 4 w3):: .o (.arr 3 w4)::oI v5::oI v6::ds 6 (AV.al 3 []::ds 53 []))
noncomputable def za:R:=jn call k 66 13 [.b,.b,.b,.aD,.lp m1,.aD,.b,.a,.b,.aD,.lp n,.b,.a,.aD,.b,.b,.a] (dd:: .o (.box 25 [.pv (.int .i64) v0, .pv (.sl 55) v1, .pv (.sl 3) v2])::dd:: .o (.arr 4 w3):: .o (.arr 3 w4)::oI v5::oI v6::oB v7::ds 5 (AV.al 3 []::ds 53 []))
noncomputable def TD:R:=lq call k 66 n [.b,.b,.b,.aD,.lp m1,.aD,.b,.a,.b,.aD,.lp m2,.b,.a,.aD,.b,.a,.b,.aD] (dd:: .o (.box 25 [.pv (.int .i64) v0, .pv (.sl 55) v1, .pv (.sl 3) v2])::dd:: .o (.arr 4 w3):: .o (.arr 3 w4)::oI v5::oI v6::oB v7::ds 5 (AV.al 3 []::ds 21 (oL 3 v8::oI v9::oI v10::ds 29 [])))
noncomputable def oO:R:=jn call k 66 12 [.b,.b,.b,.aD,.lp m1,.aD,.b,.a,.b,.aD,.lp m2,.b,.a,.aD,.b,.a,.b,.aD,.lp n,.b,.b,.b] (dd:: .o (.box 25 [.pv (.int .i64) v0, .pv (.sl 55) v1, .pv (.sl 3) v2])::dd:: .o (.arr 4 w3):: .o (.arr 3 w4)::oI v5::oI v6::oB v7::ds 5 (AV.al 3 []::ds 21 (.o (.arr 3 w8)::oI v9::oI v10::ds 29 [])))
noncomputable def uf:R:=lq call k 66 n [.b,.b,.b,.aD,.lp m1,.aD,.b,.a,.b,.aD,.lp m2,.b,.a,.aD,.b,.a,.b,.aD] (dd:: .o (.box 25 [.pv (.int .i64) v0, .pv (.sl 55) v1, .pv (.sl 3) v2])::dd:: .o (.arr 4 w3):: .o (.arr 3 w4)::oI v5::oI v6::oB v7::ds 5 (AV.al 3 []::ds 21 (.o (.arr 3 w8)::oI v9::oI v10::ds 29 [])))
noncomputable def vo:R:=jn call k 66 15 [.b,.b,.b,.aD,.lp n,.aD,.b,.b,.a,.a] (dd:: .o (.box 25 [.pv (.int .i64) v0, .pv (.sl 55) v1, .pv (.sl 3) v2])::dd:: .o (.arr 4 w3):: .o (.arr 3 w4)::oI v5::ds 7 (AV.al 3 []::ds 53 []))
noncomputable def Ga:R:=lq call k 66 n [.b,.b,.b,.aD,.lp m1,.aD,.b,.a,.b,.aD] (dd:: .o (.box 25 [.pv (.int .i64) v0, .pv (.sl 55) v1, .pv (.sl 3) v2])::dd:: .o (.arr 4 w3):: .o (.arr 3 w4)::oI v5::oI v6::ds 6 (AV.al 3 []::ds 53 []))
noncomputable def Gb:R:=lq call k 66 n [.b,.b,.b,.aD] (dd:: .o (.box 25 [.pv (.int .i64) v0, .pv (.sl 55) v1, .pv (.sl 3) v2])::dd:: .o (.arr 4 w3):: .o (.arr 3 w4)::ds 8 (AV.al 3 []::ds 53 []))
theorem K9:F7 call k m1 n v0 v1 v2 w3 w4 v5 v6=
 Ga call k m1 n v0 v1 v2 w3 w4 v5 (PV.int .i64 (IntKind.i64.wrap (v6.toInt+1))):=by rw[F7,aE];kernel_rfl
theorem HT:za call k m1 n v0 v1 v2 w3 w4 v5 v6 v7=
 bif v7.toBool then
 F7 call k m1 n v0 v1 v2 w3 w4 v6 v6
 else
 F7 call k m1 n v0 v1 v2 w3 w4 v5 v6:=by rw[za,aE];kernel_rfl
theorem BF:oO call k m1 m2 n v0 v1 v2 w3 w4 v5 v6 v7 w8 v9 v10=
 uf call k m1 m2 n v0 v1 v2 w3 w4 v5 v6 v7 w8 v9 (PV.int .i64 (IntKind.i64.wrap (v10.toInt+1))):=by rw[oO,aE];kernel_rfl
theorem zb:uf call k m1 m2 (n+1) v0 v1 v2 w3 w4 v5 v6 v7 w8 v9 v10=
 bif au (v10.toInt) (v9.toInt)then
 bif aj (0) (v10.toInt)&&au (v10.toInt) ((w8.length:Int))then
 bif v7.toBool then
 bif au ((nth default w8 v10.toInt.toNat).toInt) ((w3.length:Int))then
 bif aj (0) ((nth default w8 v10.toInt.toNat).toInt)&&au ((nth default w8 v10.toInt.toNat).toInt) ((w3.length:Int))then
 oO call k m1 m2 n v0 v1 v2 w3 w4 v5 v6 (nth default w3 (nth default w8 v10.toInt.toNat).toInt.toNat) w8 v9 v10
 else
 none
 else
 oO call k m1 m2 n v0 v1 v2 w3 w4 v5 v6 (PV.bool false) w8 v9 v10
 else
 oO call k m1 m2 n v0 v1 v2 w3 w4 v5 v6 (PV.bool false) w8 v9 v10
 else
 none
 else
 za call k m1 m2 v0 v1 v2 w3 w4 v5 v6 v7:=by kernel_rfl
theorem HU:vo call k n v0 v1 v2 w3 w4 v5=
 bif au (v5.toInt) (0)then
 some ([.arr 3 w4],[])
 else
 bif aj (0) (v5.toInt)&&au (v5.toInt) ((w3.length:Int))then
 bif AJ ((w4.length+[v5].reverse.length)*8) (room)then
 Gb call k n v0 v1 v2 (w3.set v5.toInt.toNat (PV.bool true)) (w4++[v5].reverse)
 else
 none
 else
 none:=by rw[vo,aE];kernel_rfl
theorem vp:Ga call k m1 (n+1) v0 v1 v2 w3 w4 v5 v6=
 bif au (v6.toInt) ((v1.toList.length:Int))then
 bif au (v5.toInt) (0)then
 bif aj (0) (v6.toInt)&&au (v6.toInt) ((w3.length:Int))then
 bif aj (0) (v6.toInt)&&au (v6.toInt) ((v1.toList.length:Int))then
 let c0:=call 38 [.pv (.st 55) (nth default v1.toList v6.toInt.toNat)]
 bif ab (.sl 3) c0 then
 TD call k m1 n k v0 v1 v2 w3 w4 v5 v6 (PV.bool !(nth default w3 v6.toInt.toNat).toBool) (aa c0) (PV.int .i64 ((aa c0).toList.length:Int)) (PV.int .i64 0)
 else
 bif fU 3 c0 then
 uf call k m1 n k v0 v1 v2 w3 w4 v5 v6 (PV.bool !(nth default w3 v6.toInt.toNat).toBool) (cB c0) (PV.int .i64 ((cB c0).length:Int)) (PV.int .i64 0)
 else
 none
 else
 none
 else
 none
 else
 vo call k m1 v0 v1 v2 w3 w4 v5
 else
 vo call k m1 v0 v1 v2 w3 w4 v5:=by kernel_rfl
theorem D3:Gb call k (n+1) v0 v1 v2 w3 w4=
 Ga call k n k v0 v1 v2 w3 w4 (PV.int .i64 (-1)) (PV.int .i64 0):=by kernel_rfl
theorem R66:aW Try.prog H0 call k 66 [.pv (.st 25) x0]=
 bif aj (((x0.cell 1).toList.length:Int)) (((x0.cell 1).toList.length:Int))&&(aj (((x0.cell 1).toList.length:Int)) (140737488355328)&&aj ((Nat.cast 1:Int)* ((x0.cell 1).toList.length:Int)) (140737488355328))then
 Gb call k k (x0.cell 0) (x0.cell 1) (x0.cell 2) (List.replicate (((x0.cell 1).toList.length:Int)).toNat (PV.bool false)) ([])
 else
 none:=by rw[aC];kernel_rfl
noncomputable def La:R:=lq call k 89 n [.b,.b,.a,.b,.aD] (dd:: .o (.box 142 [.pv Ty.str v0, .pv Ty.str v1, .pv (.int .i64) v2, .pv (.int .i64) v3, .pv (.sl 128) v4, .pv Ty.str v5, .pv (.int .i64) v6, .pv (.int .i64) v7, .pv Ty.str v8, .pv Ty.str v9, .pv (.sl 142) v10])::dd::oI v11::dd::dd:: .ptr 1 [] 10::oL 142 v12::oI v13::oI v14::ds 9 [])
theorem D4:La call k (n+1) v0 v1 v2 v3 v4 v5 v6 v7 v8 v9 v10 v11 v12 v13 v14=
 bif au (v14.toInt) (v13.toInt)then
 bif aj (0) (v14.toInt)&&au (v14.toInt) ((v12.toList.length:Int))then
 let c0:=call 89 [.pv (.st 142) (PV.agg [(nth default v12.toList v14.toInt.toNat).cell 0,(nth default v12.toList v14.toInt.toNat).cell 1,(nth default v12.toList v14.toInt.toNat).cell 2,(nth default v12.toList v14.toInt.toNat).cell 3,(nth default v12.toList v14.toInt.toNat).cell 4,(nth default v12.toList v14.toInt.toNat).cell 5,(nth default v12.toList v14.toInt.toNat).cell 6,(nth default v12.toList v14.toInt.toNat).cell 7,(nth default v12.toList v14.toInt.toNat).cell 8,(nth default v12.toList v14.toInt.toNat).cell 9,(nth default v12.toList v14.toInt.toNat).cell 10])]
 bif ab (.int .i64) c0 then
 La call k n v0 v1 v2 v3 v4 v5 v6 v7 v8 v9 v10 (PV.int .i64 (IntKind.i64.wrap (v11.toInt+(aa c0).toInt))) v12 v13 (PV.int .i64 (IntKind.i64.wrap (v14.toInt+1)))
 else
 none
 else
 none
 else
 some ([.pv (.int .i64) v11],[]):=by kernel_rfl
theorem R89:aW Try.prog H0 call k 89 [.pv (.st 142) x0]=
 La call k k (x0.cell 0) (x0.cell 1) (x0.cell 2) (x0.cell 3) (x0.cell 4) (x0.cell 5) (x0.cell 6) (x0.cell 7) (x0.cell 8) (x0.cell 9) (x0.cell 10) (PV.int .i64 1) (x0.cell 10) (PV.int .i64 ((x0.cell 10).toList.length:Int)) (PV.int .i64 0):=by rw[aC];kernel_rfl
noncomputable def Lb:R:=lq call k 90 n [.b,.b,.a,.b,.aD] (dd:: .o (.box 142 [.pv Ty.str v0, .pv Ty.str v1, .pv (.int .i64) v2, .pv (.int .i64) v3, .pv (.sl 128) v4, .pv Ty.str v5, .pv (.int .i64) v6, .pv (.int .i64) v7, .pv Ty.str v8, .pv Ty.str v9, .pv (.sl 142) v10])::dd::oI v11::dd::dd:: .ptr 1 [] 10::oL 142 v12::oI v13::oI v14::ds 10 [])
theorem D5:Lb call k (n+1) v0 v1 v2 v3 v4 v5 v6 v7 v8 v9 v10 v11 v12 v13 v14=
 bif au (v14.toInt) (v13.toInt)then
 bif aj (0) (v14.toInt)&&au (v14.toInt) ((v12.toList.length:Int))then
 let c0:=call 90 [.pv (.st 142) (PV.agg [(nth default v12.toList v14.toInt.toNat).cell 0,(nth default v12.toList v14.toInt.toNat).cell 1,(nth default v12.toList v14.toInt.toNat).cell 2,(nth default v12.toList v14.toInt.toNat).cell 3,(nth default v12.toList v14.toInt.toNat).cell 4,(nth default v12.toList v14.toInt.toNat).cell 5,(nth default v12.toList v14.toInt.toNat).cell 6,(nth default v12.toList v14.toInt.toNat).cell 7,(nth default v12.toList v14.toInt.toNat).cell 8,(nth default v12.toList v14.toInt.toNat).cell 9,(nth default v12.toList v14.toInt.toNat).cell 10])]
 bif ab (.int .i64) c0 then
 Lb call k n v0 v1 v2 v3 v4 v5 v6 v7 v8 v9 v10 (PV.int .i64 (if(aa c0).toInt > v11.toInt then(aa c0).toInt else v11.toInt)) v12 v13 (PV.int .i64 (IntKind.i64.wrap (v14.toInt+1)))
 else
 none
 else
 none
 else
 some ([.pv (.int .i64) (PV.int .i64 (IntKind.i64.wrap (v11.toInt+1)))],[]):=by kernel_rfl
theorem R90:aW Try.prog H0 call k 90 [.pv (.st 142) x0]=
 Lb call k k (x0.cell 0) (x0.cell 1) (x0.cell 2) (x0.cell 3) (x0.cell 4) (x0.cell 5) (x0.cell 6) (x0.cell 7) (x0.cell 8) (x0.cell 9) (x0.cell 10) (PV.int .i64 0) (x0.cell 10) (PV.int .i64 ((x0.cell 10).toList.length:Int)) (PV.int .i64 0):=by rw[aC];kernel_rfl
end Go.V
namespace Go.V
open Go.Proofs
variable (call:aw) (k m1 m2 m3 n:Nat) (x0 x1 x2 x3 x4 x5 x6 x7 x8 x9:PV) (v0:PV) (w0:List PV) (u0:Nat) (v1:PV) (w1:List PV) (u1:Nat) (v2:PV) (w2:List PV) (u2:Nat) (v3:PV) (w3:List PV) (u3:Nat) (v4:PV) (w4:List PV) (u4:Nat) (v5:PV) (w5:List PV) (u5:Nat) (v6:PV) (w6:List PV) (u6:Nat) (v7:PV) (w7:List PV) (u7:Nat) (v8:PV) (w8:List PV) (u8:Nat) (v9:PV) (w9:List PV) (u9:Nat) (v10:PV) (w10:List PV) (u10:Nat) (v11:PV) (w11:List PV) (u11:Nat) (v12:PV) (w12:List PV) (u12:Nat) (v13:PV) (w13:List PV) (u13:Nat) (v14:PV) (w14:List PV) (u14:Nat) (v15:PV) (w15:List PV) (u15:Nat) (v16:PV) (w16:List PV) (u16:Nat) (v17:PV) (w17:List PV) (u17:Nat) (v18:PV) (w18:List PV) (u18:Nat) (v19:PV) (w19:List PV) (u19:Nat) (v20:PV) (w20:List PV) (u20:Nat) (v21:PV) (w21:List PV) (u21:Nat) (v22:PV) (w22:List PV) (u22:Nat) (v23:PV) (w23:List PV) (u23:Nat) (v24:PV) (w24:List PV) (u24:Nat) (v25:PV) (w25:List PV) (u25:Nat) (v26:PV) (w26:List PV) (u26:Nat) (v27:PV) (w27:List PV) (u27:Nat) (v28:PV) (w28:List PV) (u28:Nat) (v29:PV) (w29:List PV) (u29:Nat) (v30:PV) (w30:List PV) (u30:Nat) (v31:PV) (w31:List PV) (u31:Nat) (v32:PV) (w32:List PV) (u32:Nat) (v33:PV) (w33:List PV) (u33:Nat) (v34:PV) (w34:List PV) (u34:Nat) (v35:PV) (w35:List PV) (u35:Nat) (v36:PV) (w36:List PV) (u36:Nat) (v37:PV) (w37:List PV) (u37:Nat) (v38:PV) (w38:List PV) (u38:Nat) (v39:PV) (w39:List PV) (u39:Nat) (v40:PV) (w40:List PV) (u40:Nat) (v41:PV) (w41:List PV) (u41:Nat) (v42:PV) (w42:List PV) (u42:Nat) (v43:PV) (w43:List PV) (u43:Nat) (v44:PV) (w44:List PV) (u44:Nat) (v45:PV) (w45:List PV) (u45:Nat) (v46:PV) (w46:List PV) (u46:Nat) (v47:PV) (w47:List PV) (u47:Nat) (v48:PV) (w48:List PV) (u48:Nat) (v49:PV) (w49:List PV) (u49:Nat) (v50:PV) (w50:List PV) (u50:Nat) (v51:PV) (w51:List PV) (u51:Nat) (v52:PV) (w52:List PV) (u52:Nat) (v53:PV) (w53:List PV) (u53:Nat) (v54:PV) (w54:List PV) (u54:Nat) (v55:PV) (w55:List PV) (u55:Nat) (v56:PV) (w56:List PV) (u56:Nat) (v57:PV) (w57:List PV) (u57:Nat) (v58:PV) (w58:List PV) (u58:Nat) (v59:PV) (w59:List PV) (u59:Nat)
theorem R41:aW Try.prog H0 call k 41 [.pv (.st 55) x0, .pv (.int .i64) x1]=
 bif (x0.cell 0).toStr.data.toList==(ByteArray.mk #[100,101,108,97,121]).data.toList then
 some ([.pv .bool (PV.bool (ak (x1.toInt) (2)))],[])
 else
 bif (x0.cell 0).toStr.data.toList==(ByteArray.mk #[118,97,114,121]).data.toList then
 bif ak (x1.toInt) (1)then
 some ([.pv .bool (PV.bool true)],[])
 else
 bif ak (x1.toInt) (3)then
 some ([.pv .bool (PV.bool true)],[])
 else
 bif ak (x1.toInt) (0)then
 some ([.pv .bool (PV.bool (ak ((x0.cell 2).toInt) (0)))],[])
 else
 some ([.pv .bool (PV.bool false)],[])
 else
 bif (x0.cell 0).toStr.data.toList==(ByteArray.mk #[119,97,118,101]).data.toList then
 some ([.pv .bool (PV.bool (ak (x1.toInt) (1)))],[])
 else
 bif (x0.cell 0).toStr.data.toList==(ByteArray.mk #[115,116,111,114,101]).data.toList then
 bif ak (x1.toInt) (2)then
 some ([.pv .bool (PV.bool true)],[])
 else
 some ([.pv .bool (PV.bool (ak (x1.toInt) (4)))],[])
 else
 some ([.pv .bool (PV.bool true)],[]):=by rw[aC];kernel_rfl
noncomputable def Gc:R:=lq call k 42 n [.b,.b,.a,.b,.x,.b,.a,.aD] (ds 7 (oI v0::oI v1::ds 11 []))
theorem vq:Gc call k (n+1) v0 v1=
 bif au (v1.toInt) (v0.toInt)then
 Gc call k n v0 (PV.int .i64 (IntKind.i64.wrap (v1.toInt*2)))
 else
 some ([.pv (.int .i64) v1],[]):=by kernel_rfl
theorem R42:aW Try.prog H0 call k 42 [.pv (.int .i64) x0, .pv (.int .i64) x1, .pv .bool x2]=
 bif x2.toBool then
 Gc call k k (PV.int .i64 (IntKind.i64.wrap (x0.toInt+x1.toInt))) (PV.int .i64 1)
 else
 some ([.pv (.int .i64) (PV.int .i64 (IntKind.i64.wrap (x0.toInt+x1.toInt)))],[]):=by rw[aC];kernel_rfl
theorem R78:aW Try.prog H0 call k 78 [.pv (.st 128) x0]=
 bif aj (1) ((x0.cell 1).toInt)then
 bif aj ((x0.cell 1).toInt) (1073741824)then
 bif aj (-1073741824) ((x0.cell 0).toInt)then
 bif aj ((x0.cell 0).toInt) (1073741824)then
 let c0:=call 87 [.pv (.int .i64) (x0.cell 0), .pv (.int .i64) (x0.cell 1)]
 bif ab (.int .i64) c0 then
 some ([.pv .bool (PV.bool (ak ((aa c0).toInt) (1)))],[])
 else
 none
 else
 some ([.pv .bool (PV.bool false)],[])
 else
 some ([.pv .bool (PV.bool false)],[])
 else
 some ([.pv .bool (PV.bool false)],[])
 else
 some ([.pv .bool (PV.bool false)],[]):=by rw[aC];kernel_rfl
noncomputable def xU:R:=jn call k 84 5 [.b,.b,.a,.b,.x,.b,.a] (dd:: .o (.box 52 [.pv Ty.str v0, .pv (.int .i64) v1, .pv (.int .i64) v2, .pv Ty.str v3, .pv Ty.str v4])::dd::oB v5::ds 101 [])
noncomputable def BG:R:=jn call k 84 7 [.b,.b,.b,.b,.a] (dd:: .o (.box 52 [.pv Ty.str v0, .pv (.int .i64) v1, .pv (.int .i64) v2, .pv Ty.str v3, .pv Ty.str v4])::dd::dd::oB v5::ds 100 [])
noncomputable def BH:R:=jn call k 84 3 [.b,.b,.a,.a] (dd:: .o (.box 52 [.pv Ty.str v0, .pv (.int .i64) v1, .pv (.int .i64) v2, .pv Ty.str v3, .pv Ty.str v4])::ds 103 [])
theorem Lc:xU call k v0 v1 v2 v3 v4 v5=
 bif v5.toBool then
 bif aj (0) (v1.toInt)then
 bif aj (v1.toInt) (30)then
 bif aj (0) (v2.toInt)then
 bif aj (v2.toInt) (30)then
 some ([.pv .bool (PV.bool (aj (IntKind.i64.wrap (v1.toInt+v2.toInt)) (30)))],[])
 else
 some ([.pv .bool (PV.bool false)],[])
 else
 some ([.pv .bool (PV.bool false)],[])
 else
 some ([.pv .bool (PV.bool false)],[])
 else
 some ([.pv .bool (PV.bool false)],[])
 else
 some ([.pv .bool (PV.bool false)],[]):=by rw[xU,aE];kernel_rfl
theorem Ld:BG call k v0 v1 v2 v3 v4 v5=
 bif v0.toStr.data.toList==(ByteArray.mk #[102,108,111,97,116]).data.toList then
 bif v5.toBool then
 bif aj (1) (v1.toInt)then
 bif aj (v1.toInt) (24)then
 bif aj (0) (v2.toInt)then
 bif aj (v2.toInt) (20)then
 some ([.pv .bool (PV.bool (aj (IntKind.i64.wrap (v1.toInt+v2.toInt)) (30)))],[])
 else
 some ([.pv .bool (PV.bool false)],[])
 else
 some ([.pv .bool (PV.bool false)],[])
 else
 some ([.pv .bool (PV.bool false)],[])
 else
 some ([.pv .bool (PV.bool false)],[])
 else
 some ([.pv .bool (PV.bool false)],[])
 else
 some ([.pv .bool (PV.bool false)],[]):=by rw[BG,aE];kernel_rfl
theorem Le:BH call k v0 v1 v2 v3 v4=
 bif v0.toStr.data.toList==(ByteArray.mk #[102,105,120]).data.toList then
 bif v4.toStr.data.toList==(ByteArray.mk #[115,97,116]).data.toList then
 xU call k v0 v1 v2 v3 v4 (PV.bool true)
 else
 bif v4.toStr.data.toList==(ByteArray.mk #[119,114,97,112]).data.toList then
 xU call k v0 v1 v2 v3 v4 (PV.bool true)
 else
 xU call k v0 v1 v2 v3 v4 (PV.bool (v4.toStr.data.toList==(ByteArray.mk #[110,111,110,101]).data.toList))
 else
 bif v4.toStr.data.toList==(ByteArray.mk #[115,97,116]).data.toList then
 BG call k v0 v1 v2 v3 v4 (PV.bool true)
 else
 BG call k v0 v1 v2 v3 v4 (PV.bool (v4.toStr.data.toList==(ByteArray.mk #[110,111,110,101]).data.toList)):=by rw[BH,aE];kernel_rfl
theorem R84:aW Try.prog H0 call k 84 [.pv (.st 52) x0]=
 bif !(x0.cell 3).toStr.data.toList==(ByteArray.mk #[102,108,111,111,114]).data.toList then
 bif !(x0.cell 3).toStr.data.toList==(ByteArray.mk #[110,101,97,114]).data.toList then
 bif !(x0.cell 3).toStr.data.toList==(ByteArray.mk #[122,101,114,111]).data.toList then
 some ([.pv .bool (PV.bool false)],[])
 else
 BH call k (x0.cell 0) (x0.cell 1) (x0.cell 2) (x0.cell 3) (x0.cell 4)
 else
 BH call k (x0.cell 0) (x0.cell 1) (x0.cell 2) (x0.cell 3) (x0.cell 4)
 else
 BH call k (x0.cell 0) (x0.cell 1) (x0.cell 2) (x0.cell 3) (x0.cell 4):=by rw[aC];kernel_rfl
theorem R85:aW Try.prog H0 call k 85 [.pv (.st 128) x0]=
 let c0:=call 78 [.pv (.st 128) (PV.agg [x0.cell 0,x0.cell 1])]
 bif ab .bool c0 then
 bif (aa c0).toBool then
 some ([.pv .bool (PV.bool true)],[])
 else
 bif ak ((x0.cell 0).toInt) (0)then
 some ([.pv .bool (PV.bool (ak ((x0.cell 1).toInt) (0)))],[])
 else
 some ([.pv .bool (PV.bool false)],[])
 else
 none:=by rw[aC];kernel_rfl
noncomputable def q9:R:=jn call k 86 7 [.b,.b,.a,.b,.x,.a] (oL 128 v0::ds 48 (oB v1::ds 42 []))
noncomputable def zc:R:=jn call k 86 19 [.b,.b,.b,.b,.b,.b,.a,.b,.aD,.lp n,.b,.b,.a,.aD,.b,.b,.b,.a] (ds 4 (oI v0::dd:: .o (.box 128 [.pv (.int .i64) v1, .pv (.int .i64) v2])::oI v3::ds 64 (.o (.arr 128 w4)::oI v5::oI v6::ds 17 [])))
noncomputable def zd:R:=lq call k 86 n [.b,.b,.b,.b,.b,.b,.a,.b,.aD] (ds 4 (oI v0::ds 67 (.o (.arr 128 w1)::oI v2::oI v3::ds 17 [])))
noncomputable def Ge:R:=lq call k 86 n [.b,.a,.b,.aD] (oL 128 v0::dd::dd::oI v1::ds 88 [])
theorem BI:q9 call k v0 v1=
 some ([.pv .bool (PV.bool false)],[]):=by rw[q9,aE];kernel_rfl
theorem HV:zc call k n v0 v1 v2 v3 w4 v5 v6=
 bif au (IntKind.i64.wrap (1073741824*v2.toInt)) (IntKind.i64.wrap (v0.toInt*v3.toInt))then
 some ([.pv .bool (PV.bool false)],[])
 else
 zd call k n v0 w4 v5 (PV.int .i64 (IntKind.i64.wrap (v6.toInt+1))):=by rw[zc,aE];kernel_rfl
theorem BJ:zd call k (n+1) v0 w1 v2 v3=
 bif au (v3.toInt) (v2.toInt)then
 bif Nat.beq 128 128&&(aj (0) (v3.toInt)&&au (v3.toInt) ((w1.length:Int)))then
 bif au (((nth default w1 v3.toInt.toNat).cell 0).toInt) (0)then
 zc call k n v0 ((nth default w1 v3.toInt.toNat).cell 0) ((nth default w1 v3.toInt.toNat).cell 1) (PV.int .i64 (IntKind.i64.wrap (0- ((nth default w1 v3.toInt.toNat).cell 0).toInt))) w1 v2 v3
 else
 zc call k n v0 ((nth default w1 v3.toInt.toNat).cell 0) ((nth default w1 v3.toInt.toNat).cell 1) ((nth default w1 v3.toInt.toNat).cell 0) w1 v2 v3
 else
 none
 else
 some ([.pv .bool (PV.bool true)],[]):=by kernel_rfl
theorem D6:Ge call k (n+1) v0 v1=
 bif au (v1.toInt) ((v0.toList.length:Int))then
 bif aj (0) (v1.toInt)&&au (v1.toInt) ((v0.toList.length:Int))then
 let c0:=call 78 [.pv (.st 128) (nth default v0.toList v1.toInt.toNat)]
 bif ab .bool c0 then
 bif !(aa c0).toBool then
 some ([.pv .bool (PV.bool false)],[])
 else
 Ge call k n v0 (PV.int .i64 (IntKind.i64.wrap (v1.toInt+1)))
 else
 none
 else
 none
 else
 bif !ak ((v0.toList.length:Int)) (4)then
 bif !ak ((v0.toList.length:Int)) (4)then
 q9 call k v0 (PV.bool true)
 else
 none
 else
 bif aj (0) (1)&&au (1) ((v0.toList.length:Int))then
 bif aj (0) (0)&&au (0) ((v0.toList.length:Int))then
 let c1:=call 94 [.pv (.st 128) (nth default v0.toList 1), .pv (.st 128) (nth default v0.toList 0)]
 bif ab (.int .i64) c1 then
 bif !ak ((v0.toList.length:Int)) (4)then
 q9 call k v0 (PV.bool true)
 else
 bif au (0) ((aa c1).toInt)then
 bif au (0) ((aa c1).toInt)then
 q9 call k v0 (PV.bool true)
 else
 none
 else
 bif aj (0) (0)&&au (0) ((v0.toList.length:Int))then
 bif aj (0) (2)&&au (2) ((v0.toList.length:Int))then
 let c2:=call 94 [.pv (.st 128) (nth default v0.toList 0), .pv (.st 128) (nth default v0.toList 2)]
 bif ab (.int .i64) c2 then
 bif au (0) ((aa c1).toInt)then
 q9 call k v0 (PV.bool true)
 else
 bif au (0) ((aa c2).toInt)then
 bif au (0) ((aa c2).toInt)then
 q9 call k v0 (PV.bool true)
 else
 none
 else
 bif aj (0) (3)&&au (3) ((v0.toList.length:Int))then
 bif au (0) ((aa c2).toInt)then
 q9 call k v0 (PV.bool true)
 else
 bif au (((nth default v0.toList 3).cell 0).toInt) (0)then
 q9 call k v0 (PV.bool true)
 else
 bif aj (0) (3)&&au (3) ((v0.toList.length:Int))then
 bif ak (((nth default v0.toList 3).cell 0).toInt) (0)then
 some ([.pv .bool (PV.bool true)],[])
 else
 bif aj (0) (1)&&au (1) ((v0.toList.length:Int))then
 bif aj (0) (3)&&au (3) ((v0.toList.length:Int))then
 let c3:=call 95 [.pv (.int .i64) ((nth default v0.toList 1).cell 1), .pv (.int .i64) ((nth default v0.toList 3).cell 1)]
 bif ab (.int .i64) c3 then
 bif ak ((aa c3).toInt) (0)then
 some ([.pv .bool (PV.bool false)],[])
 else
 bif aj (0) (1)&&au (1) ((v0.toList.length:Int))then
 bif aj (0) (2)&&au (2) ((v0.toList.length:Int))then
 zd call k k (aa c3) ([nth default v0.toList 2,nth default v0.toList 1].reverse) (PV.int .i64 ([nth default v0.toList 2,nth default v0.toList 1].reverse.length:Int)) (PV.int .i64 0)
 else
 none
 else
 none
 else
 none
 else
 none
 else
 none
 else
 none
 else
 none
 else
 none
 else
 none
 else
 none
 else
 none
 else
 none
 else
 none:=by kernel_rfl
theorem R86:aW Try.prog H0 call k 86 [.pv (.sl 128) x0]=
 Ge call k k x0 (PV.int .i64 0):=by rw[aC];kernel_rfl
noncomputable def xV:R:=lq call k 87 n [.b,.b,.b,.a,.aD] (oI v0::oI v1::ds 20 [])
noncomputable def Gf:R:=jn call k 87 3 [.b,.b,.a,.a] (oI v0::oI v1::ds 20 [])
theorem D7:xV call k (n+1) v0 v1=
 bif !ak (v1.toInt) (0)then
 bif ak (v1.toInt) (0)then
 none
 else
 xV call k n v1 (PV.int .i64 (v0.toInt.tmod v1.toInt))
 else
 some ([.pv (.int .i64) v0],[]):=by kernel_rfl
theorem Lf:Gf call k v0 v1=
 bif au (v1.toInt) (0)then
 xV call k k v0 (PV.int .i64 (IntKind.i64.wrap (0-v1.toInt)))
 else
 xV call k k v0 v1:=by rw[Gf,aE];kernel_rfl
theorem R87:aW Try.prog H0 call k 87 [.pv (.int .i64) x0, .pv (.int .i64) x1]=
 bif au (x0.toInt) (0)then
 Gf call k (PV.int .i64 (IntKind.i64.wrap (0-x0.toInt))) x1
 else
 Gf call k x0 x1:=by rw[aC];kernel_rfl
noncomputable def Gg:R:=jn call k 94 3 [.b,.b,.a,.a] (dd::dd:: .o (.box 128 [.pv (.int .i64) v0, .pv (.int .i64) v1]):: .o (.box 128 [.pv (.int .i64) v2, .pv (.int .i64) v3])::ds 33 [])
theorem Lg:Gg call k v0 v1 v2 v3=
 let c2:=call 78 [.pv (.st 128) (PV.agg [v0,v1])]
 bif ab .bool c2 then
 bif !(aa c2).toBool then
 some ([.pv (.int .i64) (PV.int .i64 (-1))],[])
 else
 let c3:=call 78 [.pv (.st 128) (PV.agg [v2,v3])]
 bif ab .bool c3 then
 bif !(aa c3).toBool then
 some ([.pv (.int .i64) (PV.int .i64 1)],[])
 else
 bif au (IntKind.i64.wrap (v0.toInt*v3.toInt)) (IntKind.i64.wrap (v2.toInt*v1.toInt))then
 some ([.pv (.int .i64) (PV.int .i64 (-1))],[])
 else
 bif au (IntKind.i64.wrap (v2.toInt*v1.toInt)) (IntKind.i64.wrap (v0.toInt*v3.toInt))then
 some ([.pv (.int .i64) (PV.int .i64 1)],[])
 else
 some ([.pv (.int .i64) (PV.int .i64 0)],[])
 else
 none
 else
 none:=by rw[Gg,aE];kernel_rfl
theorem R94:aW Try.prog H0 call k 94 [.pv (.st 128) x0, .pv (.st 128) x1]=
 let c0:=call 78 [.pv (.st 128) (PV.agg [x0.cell 0,x0.cell 1])]
 bif ab .bool c0 then
 bif !(aa c0).toBool then
 let c1:=call 78 [.pv (.st 128) (PV.agg [x1.cell 0,x1.cell 1])]
 bif ab .bool c1 then
 bif !(aa c1).toBool then
 some ([.pv (.int .i64) (PV.int .i64 0)],[])
 else
 Gg call k (x0.cell 0) (x0.cell 1) (x1.cell 0) (x1.cell 1)
 else
 none
 else
 Gg call k (x0.cell 0) (x0.cell 1) (x1.cell 0) (x1.cell 1)
 else
 none:=by rw[aC];kernel_rfl
noncomputable def Gh:R:=lq call k 95 n [.b,.b,.a,.aD] (oI v0::oI v1::dd::dd::dd::oI v2::oI v3::ds 19 [])
theorem D8:Gh call k (n+1) v0 v1 v2 v3=
 bif !ak (v3.toInt) (0)then
 bif ak (v3.toInt) (0)then
 none
 else
 Gh call k n v0 v1 v3 (PV.int .i64 (v2.toInt.tmod v3.toInt))
 else
 bif ak (v2.toInt) (0)then
 none
 else
 bif ak (v1.toInt) (0)then
 none
 else
 bif au (IntKind.i64.wrap (Int.tdiv 1073741824 v1.toInt)) (IntKind.i64.wrap (v0.toInt.tdiv v2.toInt))then
 some ([.pv (.int .i64) (PV.int .i64 0)],[])
 else
 bif ak (v2.toInt) (0)then
 none
 else
 some ([.pv (.int .i64) (PV.int .i64 (IntKind.i64.wrap (IntKind.i64.wrap (v0.toInt.tdiv v2.toInt)*v1.toInt)))],[]):=by kernel_rfl
theorem R95:aW Try.prog H0 call k 95 [.pv (.int .i64) x0, .pv (.int .i64) x1]=
 Gh call k k x0 x1 x0 x1:=by rw[aC];kernel_rfl
theorem WZ:aW Try.prog H0 call k 101 [.pv (.st 128) x0]=
 bif ak ((x0.cell 0).toInt) (0)&&ak ((x0.cell 1).toInt) (0)then
 some ([.pv .bool (PV.bool true)],[])
 else
 let c0:=call 105 [.pv (.st 128) (PV.agg [x0.cell 0,x0.cell 1])]
 bif ab .bool c0 then
 some ([.pv .bool (aa c0)],[])
 else
 none:=by rw[aC];kernel_rfl
noncomputable def ph:R:=jn call k 102 13 [.b,.b,.b,.a,.a] (dd:: .o (.box 52 [.pv Ty.str v0, .pv (.int .i64) v1, .pv (.int .i64) v2, .pv Ty.str v3, .pv Ty.str v4])::ds 75 [])
noncomputable def vr:R:=jn call k 102 6 [.b,.b,.a,.a] (dd:: .o (.box 52 [.pv Ty.str v0, .pv (.int .i64) v1, .pv (.int .i64) v2, .pv Ty.str v3, .pv Ty.str v4])::ds 75 [])
theorem D9:ph call k v0 v1 v2 v3 v4=
 bif v0.toStr.data.toList==(ByteArray.mk #[102,105,120]).data.toList then
 bif aj (0) (v1.toInt)then
 bif aj (0) (v2.toInt)then
 bif aj (v1.toInt) (30)then
 bif aj (v2.toInt) (30)then
 some ([.pv .bool (PV.bool (aj (IntKind.i64.wrap (v1.toInt+v2.toInt)) (30)))],[])
 else
 some ([.pv .bool (PV.bool false)],[])
 else
 some ([.pv .bool (PV.bool false)],[])
 else
 some ([.pv .bool (PV.bool false)],[])
 else
 some ([.pv .bool (PV.bool false)],[])
 else
 bif v0.toStr.data.toList==(ByteArray.mk #[102,108,111,97,116]).data.toList then
 bif aj (1) (v1.toInt)then
 bif aj (v1.toInt) (24)then
 bif aj (0) (v2.toInt)then
 bif aj (v2.toInt) (20)then
 some ([.pv .bool (PV.bool (aj (IntKind.i64.wrap (v1.toInt+v2.toInt)) (30)))],[])
 else
 some ([.pv .bool (PV.bool false)],[])
 else
 some ([.pv .bool (PV.bool false)],[])
 else
 some ([.pv .bool (PV.bool false)],[])
 else
 some ([.pv .bool (PV.bool false)],[])
 else
 some ([.pv .bool (PV.bool false)],[]):=by rw[ph,aE];kernel_rfl
theorem HW:vr call k v0 v1 v2 v3 v4=
 bif v4.toStr.data.toList==(ByteArray.mk #[115,97,116]).data.toList then
 ph call k v0 v1 v2 v3 v4
 else
 bif v4.toStr.data.toList==(ByteArray.mk #[110,111,110,101]).data.toList then
 ph call k v0 v1 v2 v3 v4
 else
 bif v4.toStr.data.toList==(ByteArray.mk #[119,114,97,112]).data.toList then
 bif !v0.toStr.data.toList==(ByteArray.mk #[102,105,120]).data.toList then
 some ([.pv .bool (PV.bool false)],[])
 else
 ph call k v0 v1 v2 v3 v4
 else
 some ([.pv .bool (PV.bool false)],[]):=by rw[vr,aE];kernel_rfl
theorem W0:aW Try.prog H0 call k 102 [.pv (.st 52) x0]=
 bif (x0.cell 3).toStr.data.toList==(ByteArray.mk #[102,108,111,111,114]).data.toList then
 vr call k (x0.cell 0) (x0.cell 1) (x0.cell 2) (x0.cell 3) (x0.cell 4)
 else
 bif (x0.cell 3).toStr.data.toList==(ByteArray.mk #[110,101,97,114]).data.toList then
 vr call k (x0.cell 0) (x0.cell 1) (x0.cell 2) (x0.cell 3) (x0.cell 4)
 else
 bif (x0.cell 3).toStr.data.toList==(ByteArray.mk #[122,101,114,111]).data.toList then
 vr call k (x0.cell 0) (x0.cell 1) (x0.cell 2) (x0.cell 3) (x0.cell 4)
 else
 some ([.pv .bool (PV.bool false)],[]):=by rw[aC];kernel_rfl
theorem W2:aW Try.prog H0 call k 105 [.pv (.st 128) x0]=
 bif aj (1) ((x0.cell 1).toInt)then
 bif aj (1) ((x0.cell 1).toInt)then
 bif aj ((x0.cell 1).toInt) (1073741824)then
 bif aj ((x0.cell 1).toInt) (1073741824)then
 bif aj (-1073741824) ((x0.cell 0).toInt)then
 bif aj (-1073741824) ((x0.cell 0).toInt)then
 bif aj ((x0.cell 0).toInt) (1073741824)then
 let c0:=call 109 [.pv (.int .i64) (x0.cell 0)]
 bif ab (.int IntKind.u64) c0 then
 let c1:=call 109 [.pv (.int .i64) (x0.cell 1)]
 bif ab (.int IntKind.u64) c1 then
 let c2:=call 108 [.pv (.int IntKind.u64) (aa c0), .pv (.int IntKind.u64) (aa c1)]
 bif ab (.int IntKind.u64) c2 then
 bif aj ((x0.cell 0).toInt) (1073741824)then
 some ([.pv .bool (PV.bool (ak ((aa c2).toInt) (1)))],[])
 else
 some ([.pv .bool (PV.bool false)],[])
 else
 none
 else
 none
 else
 none
 else
 bif aj ((x0.cell 0).toInt) (1073741824)then
 none
 else
 some ([.pv .bool (PV.bool false)],[])
 else
 some ([.pv .bool (PV.bool false)],[])
 else
 bif aj (-1073741824) ((x0.cell 0).toInt)then
 none
 else
 some ([.pv .bool (PV.bool false)],[])
 else
 some ([.pv .bool (PV.bool false)],[])
 else
 bif aj ((x0.cell 1).toInt) (1073741824)then
 none
 else
 some ([.pv .bool (PV.bool false)],[])
 else
 some ([.pv .bool (PV.bool false)],[])
 else
 bif aj (1) ((x0.cell 1).toInt)then
 none
 else
 some ([.pv .bool (PV.bool false)],[]):=by rw[aC];kernel_rfl
noncomputable def ze:R:=jn call k 106 3 [.b,.b,.a,.b,.x,.a] (dd::dd:: .o (.box 128 [.pv (.int .i64) v0, .pv (.int .i64) v1]):: .o (.box 128 [.pv (.int .i64) v2, .pv (.int .i64) v3])::dd::oB v4::oB v5::ds 11 (oB v6::ds 28 []))
theorem HX:ze call k v0 v1 v2 v3 v4 v5 v6=
 bif !v4.toBool then
 bif v4.toBool then
 let c2:=call 110 [.pv .bool v5, .pv .bool (PV.bool !v5.toBool)]
 bif ab (.int .i64) c2 then
 some ([.pv (.int .i64) (aa c2)],[])
 else
 none
 else
 let c3:=call 110 [.pv .bool v5, .pv .bool (PV.bool false)]
 bif ab (.int .i64) c3 then
 some ([.pv (.int .i64) (aa c3)],[])
 else
 none
 else
 bif v4.toBool then
 let c4:=call 110 [.pv .bool (PV.bool false), .pv .bool (PV.bool !v5.toBool)]
 bif ab (.int .i64) c4 then
 some ([.pv (.int .i64) (aa c4)],[])
 else
 none
 else
 let c5:=call 110 [.pv .bool (PV.bool false), .pv .bool (PV.bool false)]
 bif ab (.int .i64) c5 then
 some ([.pv (.int .i64) (aa c5)],[])
 else
 none:=by rw[ze,aE];kernel_rfl
theorem W3:aW Try.prog H0 call k 106 [.pv (.st 128) x0, .pv (.st 128) x1]=
 let c0:=call 105 [.pv (.st 128) (PV.agg [x0.cell 0,x0.cell 1])]
 bif ab .bool c0 then
 let c1:=call 105 [.pv (.st 128) (PV.agg [x1.cell 0,x1.cell 1])]
 bif ab .bool c1 then
 bif !(aa c0).toBool then
 ze call k (x0.cell 0) (x0.cell 1) (x1.cell 0) (x1.cell 1) (aa c0) (aa c1) (PV.bool true)
 else
 bif !(aa c1).toBool then
 ze call k (x0.cell 0) (x0.cell 1) (x1.cell 0) (x1.cell 1) (aa c0) (aa c1) (PV.bool true)
 else
 let c6:=call 110 [.pv .bool (PV.bool (au (IntKind.i64.wrap ((x0.cell 0).toInt* (x1.cell 1).toInt)) (IntKind.i64.wrap ((x1.cell 0).toInt* (x0.cell 1).toInt)))), .pv .bool (PV.bool (au (IntKind.i64.wrap ((x1.cell 0).toInt* (x0.cell 1).toInt)) (IntKind.i64.wrap ((x0.cell 0).toInt* (x1.cell 1).toInt))))]
 bif ab (.int .i64) c6 then
 some ([.pv (.int .i64) (aa c6)],[])
 else
 none
 else
 none
 else
 none:=by rw[aC];kernel_rfl
noncomputable def vt:R:=lq call k 107 n [.b,.a,.aD] (oI v0::oI v1::ds 10 [])
theorem BK:vt call k (n+1) v0 v1=
 bif !ak (v1.toInt) (0)then
 bif ak (v1.toInt) (0)then
 none
 else
 vt call k n v1 (PV.int .i64 (v0.toInt.tmod v1.toInt))
 else
 some ([.pv (.int .i64) v0],[]):=by kernel_rfl
theorem W4:aW Try.prog H0 call k 107 [.pv (.int .i64) x0, .pv (.int .i64) x1]=
 vt call k k x0 x1:=by rw[aC];kernel_rfl
noncomputable def vu:R:=lq call k 108 n [.b,.a,.aD] (.o (.pv (.int IntKind.u64) v0):: .o (.pv (.int IntKind.u64) v1)::ds 10 [])
theorem BL:vu call k (n+1) v0 v1=
 bif !ak (v1.toInt) (0)then
 bif ak (v1.toInt) (0)then
 none
 else
 vu call k n v1 (PV.int IntKind.u64 (v0.toInt.tmod v1.toInt))
 else
 some ([.pv (.int IntKind.u64) v0],[]):=by kernel_rfl
theorem W5:aW Try.prog H0 call k 108 [.pv (.int IntKind.u64) x0, .pv (.int IntKind.u64) x1]=
 vu call k k x0 x1:=by rw[aC];kernel_rfl
theorem W8:aW Try.prog H0 call k 109 [.pv (.int .i64) x0]=
 bif au (x0.toInt) (0)then
 some ([.pv (.int IntKind.u64) (PV.int IntKind.u64 (IntKind.u64.wrap (0-IntKind.u64.wrap x0.toInt)))],[])
 else
 some ([.pv (.int IntKind.u64) (PV.int IntKind.u64 (IntKind.u64.wrap x0.toInt))],[]):=by rw[aC];kernel_rfl
theorem W9:aW Try.prog H0 call k 110 [.pv .bool x0, .pv .bool x1]=
 bif x0.toBool then
 some ([.pv (.int .i64) (PV.int .i64 (-1))],[])
 else
 bif x1.toBool then
 some ([.pv (.int .i64) (PV.int .i64 1)],[])
 else
 some ([.pv (.int .i64) (PV.int .i64 0)],[]):=by rw[aC];kernel_rfl
end Go.V
namespace Go.V
open Go.Proofs
variable (call:aw) (k m1 m2 m3 n:Nat) (x0 x1 x2 x3 x4 x5 x6 x7 x8 x9:PV) (v0:PV) (w0:List PV) (u0:Nat) (v1:PV) (w1:List PV) (u1:Nat) (v2:PV) (w2:List PV) (u2:Nat) (v3:PV) (w3:List PV) (u3:Nat) (v4:PV) (w4:List PV) (u4:Nat) (v5:PV) (w5:List PV) (u5:Nat) (v6:PV) (w6:List PV) (u6:Nat) (v7:PV) (w7:List PV) (u7:Nat) (v8:PV) (w8:List PV) (u8:Nat) (v9:PV) (w9:List PV) (u9:Nat) (v10:PV) (w10:List PV) (u10:Nat) (v11:PV) (w11:List PV) (u11:Nat) (v12:PV) (w12:List PV) (u12:Nat) (v13:PV) (w13:List PV) (u13:Nat) (v14:PV) (w14:List PV) (u14:Nat) (v15:PV) (w15:List PV) (u15:Nat) (v16:PV) (w16:List PV) (u16:Nat) (v17:PV) (w17:List PV) (u17:Nat) (v18:PV) (w18:List PV) (u18:Nat) (v19:PV) (w19:List PV) (u19:Nat) (v20:PV) (w20:List PV) (u20:Nat) (v21:PV) (w21:List PV) (u21:Nat) (v22:PV) (w22:List PV) (u22:Nat) (v23:PV) (w23:List PV) (u23:Nat) (v24:PV) (w24:List PV) (u24:Nat) (v25:PV) (w25:List PV) (u25:Nat) (v26:PV) (w26:List PV) (u26:Nat) (v27:PV) (w27:List PV) (u27:Nat) (v28:PV) (w28:List PV) (u28:Nat) (v29:PV) (w29:List PV) (u29:Nat) (v30:PV) (w30:List PV) (u30:Nat) (v31:PV) (w31:List PV) (u31:Nat) (v32:PV) (w32:List PV) (u32:Nat) (v33:PV) (w33:List PV) (u33:Nat) (v34:PV) (w34:List PV) (u34:Nat) (v35:PV) (w35:List PV) (u35:Nat) (v36:PV) (w36:List PV) (u36:Nat) (v37:PV) (w37:List PV) (u37:Nat) (v38:PV) (w38:List PV) (u38:Nat) (v39:PV) (w39:List PV) (u39:Nat) (v40:PV) (w40:List PV) (u40:Nat) (v41:PV) (w41:List PV) (u41:Nat) (v42:PV) (w42:List PV) (u42:Nat) (v43:PV) (w43:List PV) (u43:Nat) (v44:PV) (w44:List PV) (u44:Nat) (v45:PV) (w45:List PV) (u45:Nat) (v46:PV) (w46:List PV) (u46:Nat) (v47:PV) (w47:List PV) (u47:Nat) (v48:PV) (w48:List PV) (u48:Nat) (v49:PV) (w49:List PV) (u49:Nat) (v50:PV) (w50:List PV) (u50:Nat) (v51:PV) (w51:List PV) (u51:Nat) (v52:PV) (w52:List PV) (u52:Nat) (v53:PV) (w53:List PV) (u53:Nat) (v54:PV) (w54:List PV) (u54:Nat) (v55:PV) (w55:List PV) (u55:Nat) (v56:PV) (w56:List PV) (u56:Nat) (v57:PV) (w57:List PV) (u57:Nat) (v58:PV) (w58:List PV) (u58:Nat) (v59:PV) (w59:List PV) (u59:Nat)
noncomputable def dG:R:=jn call k 83 3 [.b,.a,.b,.aD,.lp n,.b,.b] (oS v0::dd::dd::oI v1::ds 53 [])
noncomputable def pO:R:=jn call k 83 6 [.b,.a,.b,.aD,.lp n,.b,.a,.aD,.b,.b,.x,.a] (oS v0::dd::dd::oI v1::ds 44 (oB v2::ds 8 []))
noncomputable def Gi:R:=lq call k 83 n [.b,.a,.b,.aD] (oS v0::dd::dd::oI v1::ds 53 [])
theorem Lh:dG call k n v0 v1=
 Gi call k n v0 (PV.int .i64 (IntKind.i64.wrap (v1.toInt+1))):=by rw[dG,aE];kernel_rfl
theorem Li:pO call k n v0 v1 v2=
 some ([.pv .bool (PV.bool false)],[]):=by rw[pO,aE];kernel_rfl
theorem Ea:Gi call k (n+1) v0 v1=
 bif au (v1.toInt) ((v0.toStr.size:Int))then
 bif aj (0) (v1.toInt)&&au (v1.toInt) ((v0.toStr.size:Int))then
 bif aj (97) (((nth 0 v0.toStr.data.toList v1.toInt.toNat).toNat:Int))then
 bif aj (((nth 0 v0.toStr.data.toList v1.toInt.toNat).toNat:Int)) (122)then
 dG call k n v0 v1
 else
 bif aj (65) (((nth 0 v0.toStr.data.toList v1.toInt.toNat).toNat:Int))then
 bif aj (((nth 0 v0.toStr.data.toList v1.toInt.toNat).toNat:Int)) (90)then
 dG call k n v0 v1
 else
 bif aj (48) (((nth 0 v0.toStr.data.toList v1.toInt.toNat).toNat:Int))then
 bif aj (((nth 0 v0.toStr.data.toList v1.toInt.toNat).toNat:Int)) (57)then
 dG call k n v0 v1
 else
 bif ak (((nth 0 v0.toStr.data.toList v1.toInt.toNat).toNat:Int)) (95)then
 dG call k n v0 v1
 else
 bif ak (((nth 0 v0.toStr.data.toList v1.toInt.toNat).toNat:Int)) (45)then
 dG call k n v0 v1
 else
 bif !ak (((nth 0 v0.toStr.data.toList v1.toInt.toNat).toNat:Int)) (47)then
 pO call k n v0 v1 (PV.bool true)
 else
 dG call k n v0 v1
 else
 bif ak (((nth 0 v0.toStr.data.toList v1.toInt.toNat).toNat:Int)) (95)then
 dG call k n v0 v1
 else
 bif ak (((nth 0 v0.toStr.data.toList v1.toInt.toNat).toNat:Int)) (45)then
 dG call k n v0 v1
 else
 bif !ak (((nth 0 v0.toStr.data.toList v1.toInt.toNat).toNat:Int)) (47)then
 pO call k n v0 v1 (PV.bool true)
 else
 dG call k n v0 v1
 else
 bif aj (48) (((nth 0 v0.toStr.data.toList v1.toInt.toNat).toNat:Int))then
 bif aj (((nth 0 v0.toStr.data.toList v1.toInt.toNat).toNat:Int)) (57)then
 dG call k n v0 v1
 else
 bif ak (((nth 0 v0.toStr.data.toList v1.toInt.toNat).toNat:Int)) (95)then
 dG call k n v0 v1
 else
 bif ak (((nth 0 v0.toStr.data.toList v1.toInt.toNat).toNat:Int)) (45)then
 dG call k n v0 v1
 else
 bif !ak (((nth 0 v0.toStr.data.toList v1.toInt.toNat).toNat:Int)) (47)then
 pO call k n v0 v1 (PV.bool true)
 else
 dG call k n v0 v1
 else
 bif ak (((nth 0 v0.toStr.data.toList v1.toInt.toNat).toNat:Int)) (95)then
 dG call k n v0 v1
 else
 bif ak (((nth 0 v0.toStr.data.toList v1.toInt.toNat).toNat:Int)) (45)then
 dG call k n v0 v1
 else
 bif !ak (((nth 0 v0.toStr.data.toList v1.toInt.toNat).toNat:Int)) (47)then
 pO call k n v0 v1 (PV.bool true)
 else
 dG call k n v0 v1
 else
 bif aj (65) (((nth 0 v0.toStr.data.toList v1.toInt.toNat).toNat:Int))then
 bif aj (((nth 0 v0.toStr.data.toList v1.toInt.toNat).toNat:Int)) (90)then
 dG call k n v0 v1
 else
 bif aj (48) (((nth 0 v0.toStr.data.toList v1.toInt.toNat).toNat:Int))then
 bif aj (((nth 0 v0.toStr.data.toList v1.toInt.toNat).toNat:Int)) (57)then
 dG call k n v0 v1
 else
 bif ak (((nth 0 v0.toStr.data.toList v1.toInt.toNat).toNat:Int)) (95)then
 dG call k n v0 v1
 else
 bif ak (((nth 0 v0.toStr.data.toList v1.toInt.toNat).toNat:Int)) (45)then
 dG call k n v0 v1
 else
 bif !ak (((nth 0 v0.toStr.data.toList v1.toInt.toNat).toNat:Int)) (47)then
 pO call k n v0 v1 (PV.bool true)
 else
 dG call k n v0 v1
 else
 bif ak (((nth 0 v0.toStr.data.toList v1.toInt.toNat).toNat:Int)) (95)then
 dG call k n v0 v1
 else
 bif ak (((nth 0 v0.toStr.data.toList v1.toInt.toNat).toNat:Int)) (45)then
 dG call k n v0 v1
 else
 bif !ak (((nth 0 v0.toStr.data.toList v1.toInt.toNat).toNat:Int)) (47)then
 pO call k n v0 v1 (PV.bool true)
 else
 dG call k n v0 v1
 else
 bif aj (48) (((nth 0 v0.toStr.data.toList v1.toInt.toNat).toNat:Int))then
 bif aj (((nth 0 v0.toStr.data.toList v1.toInt.toNat).toNat:Int)) (57)then
 dG call k n v0 v1
 else
 bif ak (((nth 0 v0.toStr.data.toList v1.toInt.toNat).toNat:Int)) (95)then
 dG call k n v0 v1
 else
 bif ak (((nth 0 v0.toStr.data.toList v1.toInt.toNat).toNat:Int)) (45)then
 dG call k n v0 v1
 else
 bif !ak (((nth 0 v0.toStr.data.toList v1.toInt.toNat).toNat:Int)) (47)then
 pO call k n v0 v1 (PV.bool true)
 else
 dG call k n v0 v1
 else
 bif ak (((nth 0 v0.toStr.data.toList v1.toInt.toNat).toNat:Int)) (95)then
 dG call k n v0 v1
 else
 bif ak (((nth 0 v0.toStr.data.toList v1.toInt.toNat).toNat:Int)) (45)then
 dG call k n v0 v1
 else
 bif !ak (((nth 0 v0.toStr.data.toList v1.toInt.toNat).toNat:Int)) (47)then
 pO call k n v0 v1 (PV.bool true)
 else
 dG call k n v0 v1
 else
 none
 else
 bif aj (1) ((v0.toStr.size:Int))then
 some ([.pv .bool (PV.bool (aj ((v0.toStr.size:Int)) (40)))],[])
 else
 some ([.pv .bool (PV.bool false)],[]):=by kernel_rfl
theorem R83:aW Try.prog H0 call k 83 [.pv Ty.str x0]=
 Gi call k k x0 (PV.int .i64 0):=by rw[aC];kernel_rfl
noncomputable def vv:R:=jn call k 96 7 [.b,.a,.b,.aD,.b,.x,.a] (oS v0::ds 5 (oS v1::oB v2::ds 17 []))
noncomputable def sm:R:=jn call k 96 12 [.b,.a,.b,.aD,.b,.y,.b,.x,.a] (oS v0::ds 12 (oB v1::ds 11 []))
theorem Lj:vv call k v0 v1 v2=
 some ([.pv (.int .i64) (PV.int .i64 2)],[]):=by rw[vv,aE];kernel_rfl
theorem HY:sm call k v0 v1=
 some ([.pv (.int .i64) (PV.int .i64 1)],[]):=by rw[sm,aE];kernel_rfl
theorem R96:aW Try.prog H0 call k 96 [.pv Ty.str x0]=
 bif x0.toStr.data.toList==(ByteArray.mk #[112,97,114]).data.toList then
 vv call k x0 x0 (PV.bool true)
 else
 bif x0.toStr.data.toList==(ByteArray.mk #[115,101,113]).data.toList then
 vv call k x0 x0 (PV.bool true)
 else
 bif x0.toStr.data.toList==(ByteArray.mk #[115,112,108,105,116]).data.toList then
 vv call k x0 x0 (PV.bool true)
 else
 bif x0.toStr.data.toList==(ByteArray.mk #[109,101,114,103,101]).data.toList then
 vv call k x0 x0 (PV.bool true)
 else
 bif x0.toStr.data.toList==(ByteArray.mk #[114,101,99]).data.toList then
 vv call k x0 x0 (PV.bool true)
 else
 bif x0.toStr.data.toList==(ByteArray.mk #[117,112]).data.toList then
 sm call k x0 (PV.bool true)
 else
 bif x0.toStr.data.toList==(ByteArray.mk #[100,111,119,110]).data.toList then
 sm call k x0 (PV.bool true)
 else
 bif x0.toStr.data.toList==(ByteArray.mk #[103,97,116,101]).data.toList then
 sm call k x0 (PV.bool true)
 else
 bif x0.toStr.data.toList==(ByteArray.mk #[114,101,115,101,116]).data.toList then
 sm call k x0 (PV.bool true)
 else
 let c0:=call 98 [.pv Ty.str x0]
 bif cc (List.map (ai Try.prog) #[3,3,4].toList) c0 then
 bif (bk 2 c0).toBool then
 some ([.pv (.int .i64) (PV.int .i64 0)],[])
 else
 some ([.pv (.int .i64) (PV.int .i64 (-1))],[])
 else
 none:=by rw[aC];kernel_rfl
noncomputable def gS:R:=jn call k 97 29 [.b,.b,.b,.b,.a] (ds 5 (oB v0::oB v1::oB v2::oB v3::oB v4::ds 117 []))
noncomputable def zf:R:=jn call k 97 17 [.b,.b,.b,.a,.b,.aD,.b,.y,.b,.y,.b,.y,.b,.x,.b] (dd:: .o (.box 142 [.pv Ty.str v0, .pv Ty.str v1, .pv (.int .i64) v2, .pv (.int .i64) v3, .pv (.sl 128) v4, .pv Ty.str v5, .pv (.int .i64) v6, .pv (.int .i64) v7, .pv Ty.str v8, .pv Ty.str v9, .pv (.sl 142) v10])::dd::dd::dd::oB v11::dd::oB v12::oB v13::oB v14::ds 117 [])
noncomputable def vw:R:=jn call k 97 21 [.b,.b,.b,.a,.b,.aD,.b,.y,.b,.y,.b,.y,.b,.y,.b,.x] (dd:: .o (.box 142 [.pv Ty.str v0, .pv Ty.str v1, .pv (.int .i64) v2, .pv (.int .i64) v3, .pv (.sl 128) v4, .pv Ty.str v5, .pv (.int .i64) v6, .pv (.int .i64) v7, .pv Ty.str v8, .pv Ty.str v9, .pv (.sl 142) v10])::dd::dd::dd::oB v11::oB v12::oB v13::oB v14::oB v15::ds 29 (oS v16::ds 36 (oB v17::ds 50 [])))
noncomputable def zg:R:=jn call k 97 28 [.b,.b,.b,.a,.b,.aD,.b,.y,.b,.y,.b,.y,.b,.y,.b,.y,.b,.y,.b,.y,.b,.x] (dd:: .o (.box 142 [.pv Ty.str v0, .pv Ty.str v1, .pv (.int .i64) v2, .pv (.int .i64) v3, .pv (.sl 128) v4, .pv Ty.str v5, .pv (.int .i64) v6, .pv (.int .i64) v7, .pv Ty.str v8, .pv Ty.str v9, .pv (.sl 142) v10])::dd::dd::dd::oB v11::oB v12::oB v13::oB v14::oB v15::ds 93 (oB v16::ds 23 []))
noncomputable def Gj:R:=lq call k 97 n [.b,.a,.b,.aD] (dd:: .o (.box 142 [.pv Ty.str v0, .pv Ty.str v1, .pv (.int .i64) v2, .pv (.int .i64) v3, .pv (.sl 128) v4, .pv Ty.str v5, .pv (.int .i64) v6, .pv (.int .i64) v7, .pv Ty.str v8, .pv Ty.str v9, .pv (.sl 142) v10])::ds 8 (AV.ptr 1 [] 4::oL 128 v11::oI v12::oI v13::ds 113 []))
theorem HZ:gS call k v0 v1 v2 v3 v4=
 bif v0.toBool then
 bif v1.toBool then
 bif v2.toBool then
 bif v3.toBool then
 some ([.pv .bool v4],[])
 else
 some ([.pv .bool (PV.bool false)],[])
 else
 some ([.pv .bool (PV.bool false)],[])
 else
 some ([.pv .bool (PV.bool false)],[])
 else
 some ([.pv .bool (PV.bool false)],[]):=by rw[gS,aE];kernel_rfl
theorem H2:zf call k v0 v1 v2 v3 v4 v5 v6 v7 v8 v9 v10 v11 v12 v13 v14=
 gS call k v11 (PV.bool (aj (v3.toInt) (4096))) v12 v13 v14:=by rw[zf,aE];kernel_rfl
theorem H3:vw call k v0 v1 v2 v3 v4 v5 v6 v7 v8 v9 v10 v11 v12 v13 v14 v15 v16 v17=
 bif aj (1) ((v4.toList.length:Int))then
 gS call k v11 v12 (PV.bool (aj ((v4.toList.length:Int)) (256))) v14 v15
 else
 gS call k v11 v12 (PV.bool false) v14 v15:=by rw[vw,aE];kernel_rfl
theorem H4:zg call k v0 v1 v2 v3 v4 v5 v6 v7 v8 v9 v10 v11 v12 v13 v14 v15 v16=
 bif aj (1) (v2.toInt)then
 gS call k (PV.bool (aj (v2.toInt) (8))) v12 v13 v14 v15
 else
 gS call k (PV.bool false) v12 v13 v14 v15:=by rw[zg,aE];kernel_rfl
theorem Eb:Gj call k (n+1) v0 v1 v2 v3 v4 v5 v6 v7 v8 v9 v10 v11 v12 v13=
 bif au (v13.toInt) (v12.toInt)then
 bif aj (0) (v13.toInt)&&au (v13.toInt) ((v11.toList.length:Int))then
 let c0:=call 101 [.pv (.st 128) (PV.agg [(nth default v11.toList v13.toInt.toNat).cell 0,(nth default v11.toList v13.toInt.toNat).cell 1])]
 bif ab .bool c0 then
 bif !(aa c0).toBool then
 some ([.pv .bool (PV.bool false)],[])
 else
 Gj call k n v0 v1 v2 v3 v4 v5 v6 v7 v8 v9 v10 v11 v12 (PV.int .i64 (IntKind.i64.wrap (v13.toInt+1)))
 else
 none
 else
 none
 else
 bif v0.toStr.data.toList==(ByteArray.mk #[110,117,109]).data.toList then
 gS call k (PV.bool (ak (v2.toInt) (0))) (PV.bool (ak (v3.toInt) (0))) (PV.bool (ak ((v4.toList.length:Int)) (1))) (PV.bool (v1.toStr.data.toList==(ByteArray.mk #[]).data.toList)) (PV.bool (v5.toStr.data.toList==(ByteArray.mk #[]).data.toList&&(ak (v6.toInt) (0)&&(ak (v7.toInt) (0)&&(v8.toStr.data.toList==(ByteArray.mk #[]).data.toList&&v9.toStr.data.toList==(ByteArray.mk #[]).data.toList)))))
 else
 bif v0.toStr.data.toList==(ByteArray.mk #[102,105,116]).data.toList then
 let c1:=call 102 [.pv (.st 52) (PV.agg [v5,v6,v7,v8,v9])]
 bif ab .bool c1 then
 gS call k (PV.bool (ak (v2.toInt) (0))) (PV.bool (ak (v3.toInt) (0))) (PV.bool (ak ((v4.toList.length:Int)) (0))) (PV.bool (v1.toStr.data.toList==(ByteArray.mk #[]).data.toList)) (aa c1)
 else
 none
 else
 bif v0.toStr.data.toList==(ByteArray.mk #[100,101,108,97,121]).data.toList then
 bif aj (0) (v2.toInt)then
 gS call k (PV.bool (aj (v2.toInt) (4096))) (PV.bool (ak (v3.toInt) (0))) (PV.bool (ak ((v4.toList.length:Int)) (0))) (PV.bool (v1.toStr.data.toList==(ByteArray.mk #[]).data.toList)) (PV.bool (v5.toStr.data.toList==(ByteArray.mk #[]).data.toList&&(ak (v6.toInt) (0)&&(ak (v7.toInt) (0)&&(v8.toStr.data.toList==(ByteArray.mk #[]).data.toList&&v9.toStr.data.toList==(ByteArray.mk #[]).data.toList)))))
 else
 gS call k (PV.bool false) (PV.bool (ak (v3.toInt) (0))) (PV.bool (ak ((v4.toList.length:Int)) (0))) (PV.bool (v1.toStr.data.toList==(ByteArray.mk #[]).data.toList)) (PV.bool (v5.toStr.data.toList==(ByteArray.mk #[]).data.toList&&(ak (v6.toInt) (0)&&(ak (v7.toInt) (0)&&(v8.toStr.data.toList==(ByteArray.mk #[]).data.toList&&v9.toStr.data.toList==(ByteArray.mk #[]).data.toList)))))
 else
 bif v0.toStr.data.toList==(ByteArray.mk #[118,97,114,121]).data.toList then
 bif aj (0) (v2.toInt)then
 zf call k v0 v1 v2 v3 v4 v5 v6 v7 v8 v9 v10 (PV.bool (aj (v2.toInt) (v3.toInt))) (PV.bool (ak ((v4.toList.length:Int)) (0))) (PV.bool (v1.toStr.data.toList==(ByteArray.mk #[]).data.toList)) (PV.bool (v5.toStr.data.toList==(ByteArray.mk #[]).data.toList&&(ak (v6.toInt) (0)&&(ak (v7.toInt) (0)&&(v8.toStr.data.toList==(ByteArray.mk #[]).data.toList&&v9.toStr.data.toList==(ByteArray.mk #[]).data.toList)))))
 else
 zf call k v0 v1 v2 v3 v4 v5 v6 v7 v8 v9 v10 (PV.bool false) (PV.bool (ak ((v4.toList.length:Int)) (0))) (PV.bool (v1.toStr.data.toList==(ByteArray.mk #[]).data.toList)) (PV.bool (v5.toStr.data.toList==(ByteArray.mk #[]).data.toList&&(ak (v6.toInt) (0)&&(ak (v7.toInt) (0)&&(v8.toStr.data.toList==(ByteArray.mk #[]).data.toList&&v9.toStr.data.toList==(ByteArray.mk #[]).data.toList)))))
 else
 bif v0.toStr.data.toList==(ByteArray.mk #[116,97,98,108,101]).data.toList then
 vw call k v0 v1 v2 v3 v4 v5 v6 v7 v8 v9 v10 (PV.bool (ak (v2.toInt) (0))) (PV.bool (ak (v3.toInt) (0))) (PV.bool (ak ((v4.toList.length:Int)) (0))) (PV.bool (v1.toStr.data.toList==(ByteArray.mk #[]).data.toList)) (PV.bool (v5.toStr.data.toList==(ByteArray.mk #[]).data.toList&&(ak (v6.toInt) (0)&&(ak (v7.toInt) (0)&&(v8.toStr.data.toList==(ByteArray.mk #[]).data.toList&&v9.toStr.data.toList==(ByteArray.mk #[]).data.toList))))) v0 (PV.bool true)
 else
 bif v0.toStr.data.toList==(ByteArray.mk #[115,116,111,114,101]).data.toList then
 vw call k v0 v1 v2 v3 v4 v5 v6 v7 v8 v9 v10 (PV.bool (ak (v2.toInt) (0))) (PV.bool (ak (v3.toInt) (0))) (PV.bool (ak ((v4.toList.length:Int)) (0))) (PV.bool (v1.toStr.data.toList==(ByteArray.mk #[]).data.toList)) (PV.bool (v5.toStr.data.toList==(ByteArray.mk #[]).data.toList&&(ak (v6.toInt) (0)&&(ak (v7.toInt) (0)&&(v8.toStr.data.toList==(ByteArray.mk #[]).data.toList&&v9.toStr.data.toList==(ByteArray.mk #[]).data.toList))))) v0 (PV.bool true)
 else
 bif v0.toStr.data.toList==(ByteArray.mk #[119,97,118,101]).data.toList then
 vw call k v0 v1 v2 v3 v4 v5 v6 v7 v8 v9 v10 (PV.bool (ak (v2.toInt) (0))) (PV.bool (ak (v3.toInt) (0))) (PV.bool (ak ((v4.toList.length:Int)) (0))) (PV.bool (v1.toStr.data.toList==(ByteArray.mk #[]).data.toList)) (PV.bool (v5.toStr.data.toList==(ByteArray.mk #[]).data.toList&&(ak (v6.toInt) (0)&&(ak (v7.toInt) (0)&&(v8.toStr.data.toList==(ByteArray.mk #[]).data.toList&&v9.toStr.data.toList==(ByteArray.mk #[]).data.toList))))) v0 (PV.bool true)
 else
 bif v0.toStr.data.toList==(ByteArray.mk #[107,110,111,98]).data.toList then
 let c2:=call 103 [.pv (.sl 128) v4]
 bif ab .bool c2 then
 let c3:=call 104 [.pv Ty.str v1]
 bif ab .bool c3 then
 gS call k (PV.bool (ak (v2.toInt) (0))) (PV.bool (ak (v3.toInt) (0))) (aa c2) (aa c3) (PV.bool (v5.toStr.data.toList==(ByteArray.mk #[]).data.toList&&(ak (v6.toInt) (0)&&(ak (v7.toInt) (0)&&(v8.toStr.data.toList==(ByteArray.mk #[]).data.toList&&v9.toStr.data.toList==(ByteArray.mk #[]).data.toList)))))
 else
 none
 else
 none
 else
 bif v0.toStr.data.toList==(ByteArray.mk #[115,104,111,119]).data.toList then
 let c4:=call 104 [.pv Ty.str v1]
 bif ab .bool c4 then
 gS call k (PV.bool (ak (v2.toInt) (0))) (PV.bool (ak (v3.toInt) (0))) (PV.bool (ak ((v4.toList.length:Int)) (0))) (aa c4) (PV.bool (v5.toStr.data.toList==(ByteArray.mk #[]).data.toList&&(ak (v6.toInt) (0)&&(ak (v7.toInt) (0)&&(v8.toStr.data.toList==(ByteArray.mk #[]).data.toList&&v9.toStr.data.toList==(ByteArray.mk #[]).data.toList)))))
 else
 none
 else
 bif v0.toStr.data.toList==(ByteArray.mk #[117,112]).data.toList then
 zg call k v0 v1 v2 v3 v4 v5 v6 v7 v8 v9 v10 (PV.bool (ak (v2.toInt) (0))) (PV.bool (ak (v3.toInt) (0))) (PV.bool (ak ((v4.toList.length:Int)) (0))) (PV.bool (v1.toStr.data.toList==(ByteArray.mk #[]).data.toList)) (PV.bool (v5.toStr.data.toList==(ByteArray.mk #[]).data.toList&&(ak (v6.toInt) (0)&&(ak (v7.toInt) (0)&&(v8.toStr.data.toList==(ByteArray.mk #[]).data.toList&&v9.toStr.data.toList==(ByteArray.mk #[]).data.toList))))) (PV.bool true)
 else
 bif v0.toStr.data.toList==(ByteArray.mk #[100,111,119,110]).data.toList then
 zg call k v0 v1 v2 v3 v4 v5 v6 v7 v8 v9 v10 (PV.bool (ak (v2.toInt) (0))) (PV.bool (ak (v3.toInt) (0))) (PV.bool (ak ((v4.toList.length:Int)) (0))) (PV.bool (v1.toStr.data.toList==(ByteArray.mk #[]).data.toList)) (PV.bool (v5.toStr.data.toList==(ByteArray.mk #[]).data.toList&&(ak (v6.toInt) (0)&&(ak (v7.toInt) (0)&&(v8.toStr.data.toList==(ByteArray.mk #[]).data.toList&&v9.toStr.data.toList==(ByteArray.mk #[]).data.toList))))) (PV.bool true)
 else
 gS call k (PV.bool (ak (v2.toInt) (0))) (PV.bool (ak (v3.toInt) (0))) (PV.bool (ak ((v4.toList.length:Int)) (0))) (PV.bool (v1.toStr.data.toList==(ByteArray.mk #[]).data.toList)) (PV.bool (v5.toStr.data.toList==(ByteArray.mk #[]).data.toList&&(ak (v6.toInt) (0)&&(ak (v7.toInt) (0)&&(v8.toStr.data.toList==(ByteArray.mk #[]).data.toList&&v9.toStr.data.toList==(ByteArray.mk #[]).data.toList))))):=by kernel_rfl
theorem R97:aW Try.prog H0 call k 97 [.pv (.st 142) x0]=
 Gj call k k (x0.cell 0) (x0.cell 1) (x0.cell 2) (x0.cell 3) (x0.cell 4) (x0.cell 5) (x0.cell 6) (x0.cell 7) (x0.cell 8) (x0.cell 9) (x0.cell 10) (x0.cell 4) (PV.int .i64 ((x0.cell 4).toList.length:Int)) (PV.int .i64 0):=by rw[aC];kernel_rfl
noncomputable def jF:R:=jn call k 98 13 [.b,.a,.b,.aD,.b,.x,.a] (ds 5 (oS v0::oB v1::ds 38 []))
noncomputable def vy:R:=jn call k 98 19 [.b,.a,.b,.aD,.b,.y,.b,.y,.b,.x,.a] (ds 5 (oS v0::ds 14 (oB v1::ds 24 [])))
noncomputable def fw:R:=jn call k 98 37 [.b,.a,.b,.aD,.b,.y,.b,.y,.b,.y,.b,.x,.a] (ds 5 (oS v0::ds 18 (oB v1::ds 20 [])))
noncomputable def zh:R:=jn call k 98 40 [.b,.a,.b,.aD,.b,.y,.b,.y,.b,.y,.b,.y,.b,.x,.a] (ds 42 ([oB v0,dd,dd]))
theorem H5:jF call k v0 v1=
 some ([.pv (.int .i64) (PV.int .i64 1), .pv (.int .i64) (PV.int .i64 1), .pv .bool (PV.bool true)],[]):=by rw[jF,aE];kernel_rfl
theorem H6:vy call k v0 v1=
 some ([.pv (.int .i64) (PV.int .i64 0), .pv (.int .i64) (PV.int .i64 1), .pv .bool (PV.bool true)],[]):=by rw[vy,aE];kernel_rfl
theorem H7:fw call k v0 v1=
 some ([.pv (.int .i64) (PV.int .i64 2), .pv (.int .i64) (PV.int .i64 1), .pv .bool (PV.bool true)],[]):=by rw[fw,aE];kernel_rfl
theorem H8:zh call k v0=
 some ([.pv (.int .i64) (PV.int .i64 3), .pv (.int .i64) (PV.int .i64 1), .pv .bool (PV.bool true)],[]):=by rw[zh,aE];kernel_rfl
theorem R98:aW Try.prog H0 call k 98 [.pv Ty.str x0]=
 bif x0.toStr.data.toList==(ByteArray.mk #[119,105,114,101]).data.toList then
 jF call k x0 (PV.bool true)
 else
 bif x0.toStr.data.toList==(ByteArray.mk #[110,101,103]).data.toList then
 jF call k x0 (PV.bool true)
 else
 bif x0.toStr.data.toList==(ByteArray.mk #[97,98,115]).data.toList then
 jF call k x0 (PV.bool true)
 else
 bif x0.toStr.data.toList==(ByteArray.mk #[102,108,111,111,114]).data.toList then
 jF call k x0 (PV.bool true)
 else
 bif x0.toStr.data.toList==(ByteArray.mk #[114,111,117,110,100]).data.toList then
 jF call k x0 (PV.bool true)
 else
 bif x0.toStr.data.toList==(ByteArray.mk #[102,114,97,99]).data.toList then
 jF call k x0 (PV.bool true)
 else
 bif x0.toStr.data.toList==(ByteArray.mk #[110,111,116]).data.toList then
 jF call k x0 (PV.bool true)
 else
 bif x0.toStr.data.toList==(ByteArray.mk #[102,105,116]).data.toList then
 jF call k x0 (PV.bool true)
 else
 bif x0.toStr.data.toList==(ByteArray.mk #[100,101,108,97,121]).data.toList then
 jF call k x0 (PV.bool true)
 else
 bif x0.toStr.data.toList==(ByteArray.mk #[116,97,98,108,101]).data.toList then
 jF call k x0 (PV.bool true)
 else
 bif x0.toStr.data.toList==(ByteArray.mk #[115,104,111,119]).data.toList then
 jF call k x0 (PV.bool true)
 else
 bif x0.toStr.data.toList==(ByteArray.mk #[99,117,116]).data.toList then
 some ([.pv (.int .i64) (PV.int .i64 1), .pv (.int .i64) (PV.int .i64 0), .pv .bool (PV.bool true)],[])
 else
 bif x0.toStr.data.toList==(ByteArray.mk #[110,117,109]).data.toList then
 vy call k x0 (PV.bool true)
 else
 bif x0.toStr.data.toList==(ByteArray.mk #[119,97,118,101]).data.toList then
 vy call k x0 (PV.bool true)
 else
 bif x0.toStr.data.toList==(ByteArray.mk #[107,110,111,98]).data.toList then
 vy call k x0 (PV.bool true)
 else
 bif x0.toStr.data.toList==(ByteArray.mk #[97,100,100]).data.toList then
 fw call k x0 (PV.bool true)
 else
 bif x0.toStr.data.toList==(ByteArray.mk #[115,117,98]).data.toList then
 fw call k x0 (PV.bool true)
 else
 bif x0.toStr.data.toList==(ByteArray.mk #[109,117,108]).data.toList then
 fw call k x0 (PV.bool true)
 else
 bif x0.toStr.data.toList==(ByteArray.mk #[100,105,118]).data.toList then
 fw call k x0 (PV.bool true)
 else
 bif x0.toStr.data.toList==(ByteArray.mk #[109,111,100]).data.toList then
 fw call k x0 (PV.bool true)
 else
 bif x0.toStr.data.toList==(ByteArray.mk #[109,105,110]).data.toList then
 fw call k x0 (PV.bool true)
 else
 bif x0.toStr.data.toList==(ByteArray.mk #[109,97,120]).data.toList then
 fw call k x0 (PV.bool true)
 else
 bif x0.toStr.data.toList==(ByteArray.mk #[108,116]).data.toList then
 fw call k x0 (PV.bool true)
 else
 bif x0.toStr.data.toList==(ByteArray.mk #[108,101]).data.toList then
 fw call k x0 (PV.bool true)
 else
 bif x0.toStr.data.toList==(ByteArray.mk #[101,113]).data.toList then
 fw call k x0 (PV.bool true)
 else
 bif x0.toStr.data.toList==(ByteArray.mk #[110,101]).data.toList then
 fw call k x0 (PV.bool true)
 else
 bif x0.toStr.data.toList==(ByteArray.mk #[97,110,100]).data.toList then
 fw call k x0 (PV.bool true)
 else
 bif x0.toStr.data.toList==(ByteArray.mk #[111,114]).data.toList then
 fw call k x0 (PV.bool true)
 else
 bif x0.toStr.data.toList==(ByteArray.mk #[120,111,114]).data.toList then
 fw call k x0 (PV.bool true)
 else
 bif x0.toStr.data.toList==(ByteArray.mk #[115,104,108]).data.toList then
 fw call k x0 (PV.bool true)
 else
 bif x0.toStr.data.toList==(ByteArray.mk #[115,104,114]).data.toList then
 fw call k x0 (PV.bool true)
 else
 bif x0.toStr.data.toList==(ByteArray.mk #[118,97,114,121]).data.toList then
 fw call k x0 (PV.bool true)
 else
 bif x0.toStr.data.toList==(ByteArray.mk #[112,105,99,107]).data.toList then
 zh call k (PV.bool true)
 else
 bif x0.toStr.data.toList==(ByteArray.mk #[115,116,111,114,101]).data.toList then
 zh call k (PV.bool true)
 else
 some ([.pv (.int .i64) (PV.int .i64 0), .pv (.int .i64) (PV.int .i64 0), .pv .bool (PV.bool false)],[]):=by rw[aC];kernel_rfl
noncomputable def nc:R:=jn call k 103 10 [.b,.b,.b,.a,.b,.x,.a] (oL 128 v0::ds 45 (oB v1::ds 63 []))
noncomputable def ug:R:=jn call k 103 22 [.b,.b,.b,.b,.b,.b,.b,.a,.b,.aD,.lp n,.b,.b,.a,.aD,.b,.b,.b,.a] (ds 5 (oI v0::dd:: .o (.box 128 [.pv (.int .i64) v1, .pv (.int .i64) v2])::oI v3::ds 71 (.o (.arr 128 w4)::oI v5::oI v6::ds 27 [])))
noncomputable def uh:R:=lq call k 103 n [.b,.b,.b,.b,.b,.b,.b,.a,.b,.aD] (ds 5 (oI v0::ds 74 (.o (.arr 128 w1)::oI v2::oI v3::ds 27 [])))
noncomputable def zi:R:=lq call k 103 n [.b,.b,.a,.b,.aD] (oL 128 v0::ds 11 (oL 128 v1::oI v2::oI v3::ds 95 []))
theorem Ec:nc call k v0 v1=
 some ([.pv .bool (PV.bool false)],[]):=by rw[nc,aE];kernel_rfl
theorem Ed:ug call k n v0 v1 v2 v3 w4 v5 v6=
 let c4:=call 107 [.pv (.int .i64) v0, .pv (.int .i64) v2]
 bif ab (.int .i64) c4 then
 bif ak ((aa c4).toInt) (0)then
 none
 else
 let c5:=call 107 [.pv (.int .i64) v0, .pv (.int .i64) v2]
 bif ab (.int .i64) c5 then
 bif ak ((aa c5).toInt) (0)then
 none
 else
 bif au (IntKind.i64.wrap (1073741824*IntKind.i64.wrap (v2.toInt.tdiv (aa c5).toInt))) (IntKind.i64.wrap (v3.toInt*IntKind.i64.wrap (v0.toInt.tdiv (aa c4).toInt)))then
 some ([.pv .bool (PV.bool false)],[])
 else
 uh call k n v0 w4 v5 (PV.int .i64 (IntKind.i64.wrap (v6.toInt+1)))
 else
 none
 else
 none:=by rw[ug,aE];kernel_rfl
theorem zj:uh call k (n+1) v0 w1 v2 v3=
 bif au (v3.toInt) (v2.toInt)then
 bif Nat.beq 128 128&&(aj (0) (v3.toInt)&&au (v3.toInt) ((w1.length:Int)))then
 bif au (((nth default w1 v3.toInt.toNat).cell 0).toInt) (0)then
 ug call k n v0 ((nth default w1 v3.toInt.toNat).cell 0) ((nth default w1 v3.toInt.toNat).cell 1) (PV.int .i64 (IntKind.i64.wrap (0- ((nth default w1 v3.toInt.toNat).cell 0).toInt))) w1 v2 v3
 else
 ug call k n v0 ((nth default w1 v3.toInt.toNat).cell 0) ((nth default w1 v3.toInt.toNat).cell 1) ((nth default w1 v3.toInt.toNat).cell 0) w1 v2 v3
 else
 none
 else
 some ([.pv .bool (PV.bool true)],[]):=by kernel_rfl
theorem BM:zi call k (n+1) v0 v1 v2 v3=
 bif au (v3.toInt) (v2.toInt)then
 bif aj (0) (v3.toInt)&&au (v3.toInt) ((v1.toList.length:Int))then
 let c0:=call 105 [.pv (.st 128) (PV.agg [(nth default v1.toList v3.toInt.toNat).cell 0,(nth default v1.toList v3.toInt.toNat).cell 1])]
 bif ab .bool c0 then
 bif !(aa c0).toBool then
 some ([.pv .bool (PV.bool false)],[])
 else
 zi call k n v0 v1 v2 (PV.int .i64 (IntKind.i64.wrap (v3.toInt+1)))
 else
 none
 else
 none
 else
 bif aj (0) (1)&&au (1) ((v0.toList.length:Int))then
 bif aj (0) (0)&&au (0) ((v0.toList.length:Int))then
 let c1:=call 106 [.pv (.st 128) (nth default v0.toList 1), .pv (.st 128) (nth default v0.toList 0)]
 bif ab (.int .i64) c1 then
 bif au (0) ((aa c1).toInt)then
 bif au (0) ((aa c1).toInt)then
 nc call k v0 (PV.bool true)
 else
 none
 else
 bif aj (0) (0)&&au (0) ((v0.toList.length:Int))then
 bif aj (0) (2)&&au (2) ((v0.toList.length:Int))then
 let c2:=call 106 [.pv (.st 128) (nth default v0.toList 0), .pv (.st 128) (nth default v0.toList 2)]
 bif ab (.int .i64) c2 then
 bif au (0) ((aa c1).toInt)then
 nc call k v0 (PV.bool true)
 else
 bif au (0) ((aa c2).toInt)then
 bif au (0) ((aa c2).toInt)then
 nc call k v0 (PV.bool true)
 else
 none
 else
 bif aj (0) (3)&&au (3) ((v0.toList.length:Int))then
 bif au (0) ((aa c2).toInt)then
 nc call k v0 (PV.bool true)
 else
 bif au (((nth default v0.toList 3).cell 0).toInt) (0)then
 nc call k v0 (PV.bool true)
 else
 bif aj (0) (3)&&au (3) ((v0.toList.length:Int))then
 bif ak (((nth default v0.toList 3).cell 0).toInt) (0)then
 some ([.pv .bool (PV.bool true)],[])
 else
 bif aj (0) (1)&&au (1) ((v0.toList.length:Int))then
 bif aj (0) (1)&&au (1) ((v0.toList.length:Int))then
 bif aj (0) (3)&&au (3) ((v0.toList.length:Int))then
 let c3:=call 107 [.pv (.int .i64) ((nth default v0.toList 1).cell 1), .pv (.int .i64) ((nth default v0.toList 3).cell 1)]
 bif ab (.int .i64) c3 then
 bif ak ((aa c3).toInt) (0)then
 none
 else
 bif aj (0) (3)&&au (3) ((v0.toList.length:Int))then
 bif au (1073741824) (IntKind.i64.wrap (IntKind.i64.wrap (((nth default v0.toList 1).cell 1).toInt.tdiv (aa c3).toInt)* ((nth default v0.toList 3).cell 1).toInt))then
 some ([.pv .bool (PV.bool false)],[])
 else
 bif aj (0) (1)&&au (1) ((v0.toList.length:Int))then
 bif aj (0) (2)&&au (2) ((v0.toList.length:Int))then
 uh call k k (PV.int .i64 (IntKind.i64.wrap (IntKind.i64.wrap (((nth default v0.toList 1).cell 1).toInt.tdiv (aa c3).toInt)* ((nth default v0.toList 3).cell 1).toInt))) ([nth default v0.toList 2,nth default v0.toList 1,PV.agg [PV.int .i64 1,PV.int .i64 1]].reverse) (PV.int .i64 ([nth default v0.toList 2,nth default v0.toList 1,PV.agg [PV.int .i64 1,PV.int .i64 1]].reverse.length:Int)) (PV.int .i64 0)
 else
 none
 else
 none
 else
 none
 else
 none
 else
 none
 else
 none
 else
 none
 else
 none
 else
 none
 else
 none
 else
 none
 else
 none
 else
 none
 else
 none
 else
 none:=by kernel_rfl
theorem Xa:aW Try.prog H0 call k 103 [.pv (.sl 128) x0]=
 bif !ak ((x0.toList.length:Int)) (4)then
 some ([.pv .bool (PV.bool false)],[])
 else
 zi call k k x0 x0 (PV.int .i64 (x0.toList.length:Int)) (PV.int .i64 0):=by rw[aC];kernel_rfl
noncomputable def lv:R:=jn call k 104 11 [.b,.a,.b,.aD,.lp n,.b,.b,.b] (oS v0::ds 5 (oL 5 v1::oI v2::oI v3::ds 36 []))
noncomputable def zk:R:=jn call k 104 8 [.b,.a,.b,.aD,.lp n,.b,.b,.a,.aD,.b,.aD,.a,.b,.y,.b,.y,.b,.y,.a] (oS v0::dd::dd::dd:: .o (.pv (.int IntKind.u8) v1)::dd::oL 5 v2::oI v3::oI v4::dd::dd::dd::oB v5::ds 32 [])
noncomputable def zl:R:=jn call k 104 7 [.b,.a,.b,.aD,.lp n,.b,.b,.a,.aD,.b,.aD,.a,.b,.y,.b,.y,.a] (oS v0::dd::dd::dd:: .o (.pv (.int IntKind.u8) v1)::dd::oL 5 v2::oI v3::oI v4::dd::dd::dd::oB v5::ds 32 [])
noncomputable def zm:R:=jn call k 104 6 [.b,.a,.b,.aD,.lp n,.b,.b,.a,.aD,.b,.aD,.a,.b,.y,.a] (oS v0::dd::dd::dd:: .o (.pv (.int IntKind.u8) v1)::dd::oL 5 v2::oI v3::oI v4::dd::dd::dd::oB v5::ds 32 [])
noncomputable def zn:R:=lq call k 104 n [.b,.a,.b,.aD] (oS v0::ds 5 (oL 5 v1::oI v2::oI v3::ds 36 []))
theorem Ee:lv call k n v0 v1 v2 v3=
 zn call k n v0 v1 v2 (PV.int .i64 (IntKind.i64.wrap (v3.toInt+1))):=by rw[lv,aE];kernel_rfl
theorem H9:zk call k n v0 v1 v2 v3 v4 v5=
 bif ak (v1.toInt) (95)then
 lv call k n v0 v2 v3 v4
 else
 bif ak (v1.toInt) (45)then
 lv call k n v0 v2 v3 v4
 else
 bif ak (v1.toInt) (47)then
 lv call k n v0 v2 v3 v4
 else
 some ([.pv .bool (PV.bool false)],[]):=by rw[zk,aE];kernel_rfl
theorem Ia:zl call k n v0 v1 v2 v3 v4 v5=
 bif aj (48) (v1.toInt)then
 bif aj (v1.toInt) (57)then
 lv call k n v0 v2 v3 v4
 else
 zk call k n v0 v1 v2 v3 v4 (PV.bool false)
 else
 zk call k n v0 v1 v2 v3 v4 (PV.bool false):=by rw[zl,aE];kernel_rfl
theorem Ib:zm call k n v0 v1 v2 v3 v4 v5=
 bif aj (65) (v1.toInt)then
 bif aj (v1.toInt) (90)then
 lv call k n v0 v2 v3 v4
 else
 zl call k n v0 v1 v2 v3 v4 (PV.bool false)
 else
 zl call k n v0 v1 v2 v3 v4 (PV.bool false):=by rw[zm,aE];kernel_rfl
theorem BN:zn call k (n+1) v0 v1 v2 v3=
 bif au (v3.toInt) (v2.toInt)then
 bif aj (0) (v3.toInt)&&au (v3.toInt) ((v1.toList.length:Int))then
 bif aj (97) ((nth default v1.toList v3.toInt.toNat).toInt)then
 bif aj ((nth default v1.toList v3.toInt.toNat).toInt) (122)then
 lv call k n v0 v1 v2 v3
 else
 zm call k n v0 (nth default v1.toList v3.toInt.toNat) v1 v2 v3 (PV.bool false)
 else
 zm call k n v0 (nth default v1.toList v3.toInt.toNat) v1 v2 v3 (PV.bool false)
 else
 none
 else
 bif !v0.toStr.data.toList==(ByteArray.mk #[]).data.toList then
 some ([.pv .bool (PV.bool (aj ((v0.toStr.size:Int)) (40)))],[])
 else
 some ([.pv .bool (PV.bool false)],[]):=by kernel_rfl
theorem Xb:aW Try.prog H0 call k 104 [.pv Ty.str x0]=
 zn call k k x0 (PV.sl (List.map (fun b ↦ PV.int IntKind.u8 (b.toNat:Int)) x0.toStr.data.toList)) (PV.int .i64 (Nat.cast (List.map (fun b ↦ PV.int IntKind.u8 (b.toNat:Int)) x0.toStr.data.toList).length:Int)) (PV.int .i64 0):=by rw[aC];kernel_rfl
noncomputable def BO:R:=jn call k 88 2 [.b,.a,.b,.x,.a] (dd:: .o (.box 142 [.pv Ty.str v0, .pv Ty.str v1, .pv (.int .i64) v2, .pv (.int .i64) v3, .pv (.sl 128) v4, .pv Ty.str v5, .pv (.int .i64) v6, .pv (.int .i64) v7, .pv Ty.str v8, .pv Ty.str v9, .pv (.sl 142) v10])::ds 14 (oB v11::ds 11 []))
noncomputable def Lk:R:=lq call k 88 n [.b,.b,.a,.b,.aD] (dd:: .o (.box 142 [.pv Ty.str v0, .pv Ty.str v1, .pv (.int .i64) v2, .pv (.int .i64) v3, .pv (.sl 128) v4, .pv Ty.str v5, .pv (.int .i64) v6, .pv (.int .i64) v7, .pv Ty.str v8, .pv Ty.str v9, .pv (.sl 142) v10])::ds 15 (AV.ptr 1 [] 10::oL 142 v11::oI v12::oI v13::ds 7 []))
theorem Ll:BO call k v0 v1 v2 v3 v4 v5 v6 v7 v8 v9 v10 v11=
 some ([.pv .bool (PV.bool false)],[]):=by rw[BO,aE];kernel_rfl
theorem Ef:Lk call k (n+1) v0 v1 v2 v3 v4 v5 v6 v7 v8 v9 v10 v11 v12 v13=
 bif au (v13.toInt) (v12.toInt)then
 bif aj (0) (v13.toInt)&&au (v13.toInt) ((v11.toList.length:Int))then
 let c2:=call 88 [.pv (.st 142) (PV.agg [(nth default v11.toList v13.toInt.toNat).cell 0,(nth default v11.toList v13.toInt.toNat).cell 1,(nth default v11.toList v13.toInt.toNat).cell 2,(nth default v11.toList v13.toInt.toNat).cell 3,(nth default v11.toList v13.toInt.toNat).cell 4,(nth default v11.toList v13.toInt.toNat).cell 5,(nth default v11.toList v13.toInt.toNat).cell 6,(nth default v11.toList v13.toInt.toNat).cell 7,(nth default v11.toList v13.toInt.toNat).cell 8,(nth default v11.toList v13.toInt.toNat).cell 9,(nth default v11.toList v13.toInt.toNat).cell 10])]
 bif ab .bool c2 then
 bif !(aa c2).toBool then
 some ([.pv .bool (PV.bool false)],[])
 else
 Lk call k n v0 v1 v2 v3 v4 v5 v6 v7 v8 v9 v10 v11 v12 (PV.int .i64 (IntKind.i64.wrap (v13.toInt+1)))
 else
 none
 else
 none
 else
 some ([.pv .bool (PV.bool true)],[]):=by kernel_rfl
theorem R88:aW Try.prog H0 call k 88 [.pv (.st 142) x0]=
 let c0:=call 96 [.pv Ty.str (x0.cell 0)]
 bif ab (.int .i64) c0 then
 bif !ak ((aa c0).toInt) (((x0.cell 10).toList.length:Int))then
 bif !ak ((aa c0).toInt) (((x0.cell 10).toList.length:Int))then
 BO call k (x0.cell 0) (x0.cell 1) (x0.cell 2) (x0.cell 3) (x0.cell 4) (x0.cell 5) (x0.cell 6) (x0.cell 7) (x0.cell 8) (x0.cell 9) (x0.cell 10) (PV.bool true)
 else
 none
 else
 let c1:=call 97 [.pv (.st 142) (PV.agg [x0.cell 0,x0.cell 1,x0.cell 2,x0.cell 3,x0.cell 4,x0.cell 5,x0.cell 6,x0.cell 7,x0.cell 8,x0.cell 9,x0.cell 10])]
 bif ab .bool c1 then
 bif !ak ((aa c0).toInt) (((x0.cell 10).toList.length:Int))then
 BO call k (x0.cell 0) (x0.cell 1) (x0.cell 2) (x0.cell 3) (x0.cell 4) (x0.cell 5) (x0.cell 6) (x0.cell 7) (x0.cell 8) (x0.cell 9) (x0.cell 10) (PV.bool true)
 else
 bif !(aa c1).toBool then
 BO call k (x0.cell 0) (x0.cell 1) (x0.cell 2) (x0.cell 3) (x0.cell 4) (x0.cell 5) (x0.cell 6) (x0.cell 7) (x0.cell 8) (x0.cell 9) (x0.cell 10) (PV.bool true)
 else
 Lk call k k (x0.cell 0) (x0.cell 1) (x0.cell 2) (x0.cell 3) (x0.cell 4) (x0.cell 5) (x0.cell 6) (x0.cell 7) (x0.cell 8) (x0.cell 9) (x0.cell 10) (x0.cell 10) (PV.int .i64 ((x0.cell 10).toList.length:Int)) (PV.int .i64 0)
 else
 none
 else
 none:=by rw[aC];kernel_rfl
end Go.V
namespace Go.V
open Go.Proofs
variable (call:aw) (k m1 m2 m3 n:Nat) (x0 x1 x2 x3 x4 x5 x6 x7 x8 x9:PV) (v0:PV) (w0:List PV) (u0:Nat) (v1:PV) (w1:List PV) (u1:Nat) (v2:PV) (w2:List PV) (u2:Nat) (v3:PV) (w3:List PV) (u3:Nat) (v4:PV) (w4:List PV) (u4:Nat) (v5:PV) (w5:List PV) (u5:Nat) (v6:PV) (w6:List PV) (u6:Nat) (v7:PV) (w7:List PV) (u7:Nat) (v8:PV) (w8:List PV) (u8:Nat) (v9:PV) (w9:List PV) (u9:Nat) (v10:PV) (w10:List PV) (u10:Nat) (v11:PV) (w11:List PV) (u11:Nat) (v12:PV) (w12:List PV) (u12:Nat) (v13:PV) (w13:List PV) (u13:Nat) (v14:PV) (w14:List PV) (u14:Nat) (v15:PV) (w15:List PV) (u15:Nat) (v16:PV) (w16:List PV) (u16:Nat) (v17:PV) (w17:List PV) (u17:Nat) (v18:PV) (w18:List PV) (u18:Nat) (v19:PV) (w19:List PV) (u19:Nat) (v20:PV) (w20:List PV) (u20:Nat) (v21:PV) (w21:List PV) (u21:Nat) (v22:PV) (w22:List PV) (u22:Nat) (v23:PV) (w23:List PV) (u23:Nat) (v24:PV) (w24:List PV) (u24:Nat) (v25:PV) (w25:List PV) (u25:Nat) (v26:PV) (w26:List PV) (u26:Nat) (v27:PV) (w27:List PV) (u27:Nat) (v28:PV) (w28:List PV) (u28:Nat) (v29:PV) (w29:List PV) (u29:Nat) (v30:PV) (w30:List PV) (u30:Nat) (v31:PV) (w31:List PV) (u31:Nat) (v32:PV) (w32:List PV) (u32:Nat) (v33:PV) (w33:List PV) (u33:Nat) (v34:PV) (w34:List PV) (u34:Nat) (v35:PV) (w35:List PV) (u35:Nat) (v36:PV) (w36:List PV) (u36:Nat) (v37:PV) (w37:List PV) (u37:Nat) (v38:PV) (w38:List PV) (u38:Nat) (v39:PV) (w39:List PV) (u39:Nat) (v40:PV) (w40:List PV) (u40:Nat) (v41:PV) (w41:List PV) (u41:Nat) (v42:PV) (w42:List PV) (u42:Nat) (v43:PV) (w43:List PV) (u43:Nat) (v44:PV) (w44:List PV) (u44:Nat) (v45:PV) (w45:List PV) (u45:Nat) (v46:PV) (w46:List PV) (u46:Nat) (v47:PV) (w47:List PV) (u47:Nat) (v48:PV) (w48:List PV) (u48:Nat) (v49:PV) (w49:List PV) (u49:Nat) (v50:PV) (w50:List PV) (u50:Nat) (v51:PV) (w51:List PV) (u51:Nat) (v52:PV) (w52:List PV) (u52:Nat) (v53:PV) (w53:List PV) (u53:Nat) (v54:PV) (w54:List PV) (u54:Nat) (v55:PV) (w55:List PV) (u55:Nat) (v56:PV) (w56:List PV) (u56:Nat) (v57:PV) (w57:List PV) (u57:Nat) (v58:PV) (w58:List PV) (u58:Nat) (v59:PV) (w59:List PV) (u59:Nat)
noncomputable def rf:R:=jn call k 67 9 [.b,.a,.b,.aD,.b,.x,.a] (dd::dd:: .o (.box 121 [.pv (.int .i64) v0, .pv (.int .i64) v1, .pv (.int .i64) v2, .pv .bool v3, .pv .bool v4, .pv .bool v5, .pv .bool v6, .pv (.int .i64) v7, .pv (.int .i64) v8])::dd::oS v9::oB v10::ds 75 [])
noncomputable def fK:R:=jn call k 67 30 [.b,.a,.b,.aD,.b,.y,.b,.y,.b,.y,.b,.x,.a] (dd::dd:: .o (.box 121 [.pv (.int .i64) v0, .pv (.int .i64) v1, .pv (.int .i64) v2, .pv .bool v3, .pv .bool v4, .pv .bool v5, .pv .bool v6, .pv (.int .i64) v7, .pv (.int .i64) v8])::dd::oS v9::ds 15 (oB v10::ds 60 []))
noncomputable def qi:R:=jn call k 67 54 [.b,.a,.b,.aD,.b,.y,.b,.y,.b,.y,.b,.y,.b,.y,.b,.y,.b,.y,.b,.y,.b,.y,.b,.y,.b,.y,.b,.y,.b,.y,.b,.x,.a] (dd::dd:: .o (.box 121 [.pv (.int .i64) v0, .pv (.int .i64) v1, .pv (.int .i64) v2, .pv .bool v3, .pv .bool v4, .pv .bool v5, .pv .bool v6, .pv (.int .i64) v7, .pv (.int .i64) v8])::dd::oS v9::ds 60 (oB v10::ds 15 []))
noncomputable def zo:R:=jn call k 67 57 [.b,.a,.b,.aD,.b,.y,.b,.y,.b,.y,.b,.y,.b,.y,.b,.y,.b,.y,.b,.y,.b,.y,.b,.y,.b,.y,.b,.y,.b,.y,.b,.y,.b,.x,.a] (dd::dd:: .o (.box 121 [.pv (.int .i64) v0, .pv (.int .i64) v1, .pv (.int .i64) v2, .pv .bool v3, .pv .bool v4, .pv .bool v5, .pv .bool v6, .pv (.int .i64) v7, .pv (.int .i64) v8])::dd::oS v9::ds 67 (oB v10::ds 8 []))
noncomputable def zp:R:=jn call k 67 60 [.b,.a,.b,.aD,.b,.y,.b,.y,.b,.y,.b,.y,.b,.y,.b,.y,.b,.y,.b,.y,.b,.y,.b,.y,.b,.y,.b,.y,.b,.y,.b,.y,.b,.y,.b,.x,.a] (dd::dd:: .o (.box 121 [.pv (.int .i64) v0, .pv (.int .i64) v1, .pv (.int .i64) v2, .pv .bool v3, .pv .bool v4, .pv .bool v5, .pv .bool v6, .pv (.int .i64) v7, .pv (.int .i64) v8])::ds 73 (oB v9::ds 4 []))
theorem Lm:rf call k v0 v1 v2 v3 v4 v5 v6 v7 v8 v9 v10=
 some ([.pv (.st 121) (PV.agg [PV.int .i64 1,PV.int .i64 1,PV.int .i64 0,PV.bool false,PV.bool false,PV.bool false,PV.bool false,PV.int .i64 0,PV.int .i64 0]), .pv .bool (PV.bool true)],[]):=by rw[rf,aE];kernel_rfl
theorem Ic:fK call k v0 v1 v2 v3 v4 v5 v6 v7 v8 v9 v10=
 some ([.pv (.st 121) (PV.agg [PV.int .i64 2,PV.int .i64 1,PV.int .i64 0,PV.bool false,PV.bool false,PV.bool false,PV.bool false,PV.int .i64 0,PV.int .i64 0]), .pv .bool (PV.bool true)],[]):=by rw[fK,aE];kernel_rfl
theorem Ie:qi call k v0 v1 v2 v3 v4 v5 v6 v7 v8 v9 v10=
 some ([.pv (.st 121) (PV.agg [PV.int .i64 0,PV.int .i64 0,PV.int .i64 2,PV.bool false,PV.bool false,PV.bool false,PV.bool false,PV.int .i64 0,PV.int .i64 0]), .pv .bool (PV.bool true)],[]):=by rw[qi,aE];kernel_rfl
theorem Ig:zo call k v0 v1 v2 v3 v4 v5 v6 v7 v8 v9 v10=
 some ([.pv (.st 121) (PV.agg [PV.int .i64 0,PV.int .i64 0,PV.int .i64 1,PV.bool true,PV.bool false,PV.bool false,PV.bool false,PV.int .i64 0,PV.int .i64 0]), .pv .bool (PV.bool true)],[]):=by rw[zo,aE];kernel_rfl
theorem Ih:zp call k v0 v1 v2 v3 v4 v5 v6 v7 v8 v9=
 some ([.pv (.st 121) (PV.agg [PV.int .i64 0,PV.int .i64 0,PV.int .i64 1,PV.bool false,PV.bool false,PV.bool false,PV.bool false,PV.int .i64 0,PV.int .i64 0]), .pv .bool (PV.bool true)],[]):=by rw[zp,aE];kernel_rfl
theorem R67:aW Try.prog H0 call k 67 [.pv Ty.str x0]=
 bif x0.toStr.data.toList==(ByteArray.mk #[119,105,114,101]).data.toList then
 rf call k (PV.int .i64 0) (PV.int .i64 0) (PV.int .i64 0) (PV.bool false) (PV.bool false) (PV.bool false) (PV.bool false) (PV.int .i64 0) (PV.int .i64 0) x0 (PV.bool true)
 else
 bif x0.toStr.data.toList==(ByteArray.mk #[110,101,103]).data.toList then
 rf call k (PV.int .i64 0) (PV.int .i64 0) (PV.int .i64 0) (PV.bool false) (PV.bool false) (PV.bool false) (PV.bool false) (PV.int .i64 0) (PV.int .i64 0) x0 (PV.bool true)
 else
 bif x0.toStr.data.toList==(ByteArray.mk #[97,98,115]).data.toList then
 rf call k (PV.int .i64 0) (PV.int .i64 0) (PV.int .i64 0) (PV.bool false) (PV.bool false) (PV.bool false) (PV.bool false) (PV.int .i64 0) (PV.int .i64 0) x0 (PV.bool true)
 else
 bif x0.toStr.data.toList==(ByteArray.mk #[102,108,111,111,114]).data.toList then
 rf call k (PV.int .i64 0) (PV.int .i64 0) (PV.int .i64 0) (PV.bool false) (PV.bool false) (PV.bool false) (PV.bool false) (PV.int .i64 0) (PV.int .i64 0) x0 (PV.bool true)
 else
 bif x0.toStr.data.toList==(ByteArray.mk #[114,111,117,110,100]).data.toList then
 rf call k (PV.int .i64 0) (PV.int .i64 0) (PV.int .i64 0) (PV.bool false) (PV.bool false) (PV.bool false) (PV.bool false) (PV.int .i64 0) (PV.int .i64 0) x0 (PV.bool true)
 else
 bif x0.toStr.data.toList==(ByteArray.mk #[102,114,97,99]).data.toList then
 rf call k (PV.int .i64 0) (PV.int .i64 0) (PV.int .i64 0) (PV.bool false) (PV.bool false) (PV.bool false) (PV.bool false) (PV.int .i64 0) (PV.int .i64 0) x0 (PV.bool true)
 else
 bif x0.toStr.data.toList==(ByteArray.mk #[110,111,116]).data.toList then
 rf call k (PV.int .i64 0) (PV.int .i64 0) (PV.int .i64 0) (PV.bool false) (PV.bool false) (PV.bool false) (PV.bool false) (PV.int .i64 0) (PV.int .i64 0) x0 (PV.bool true)
 else
 bif x0.toStr.data.toList==(ByteArray.mk #[99,117,116]).data.toList then
 some ([.pv (.st 121) (PV.agg [PV.int .i64 1,PV.int .i64 0,PV.int .i64 0,PV.bool false,PV.bool false,PV.bool false,PV.bool false,PV.int .i64 0,PV.int .i64 0]), .pv .bool (PV.bool true)],[])
 else
 bif x0.toStr.data.toList==(ByteArray.mk #[110,117,109]).data.toList then
 some ([.pv (.st 121) (PV.agg [PV.int .i64 0,PV.int .i64 1,PV.int .i64 0,PV.bool false,PV.bool false,PV.bool false,PV.bool false,PV.int .i64 1,PV.int .i64 1]), .pv .bool (PV.bool true)],[])
 else
 bif x0.toStr.data.toList==(ByteArray.mk #[97,100,100]).data.toList then
 fK call k (PV.int .i64 0) (PV.int .i64 0) (PV.int .i64 0) (PV.bool false) (PV.bool false) (PV.bool false) (PV.bool false) (PV.int .i64 0) (PV.int .i64 0) x0 (PV.bool true)
 else
 bif x0.toStr.data.toList==(ByteArray.mk #[115,117,98]).data.toList then
 fK call k (PV.int .i64 0) (PV.int .i64 0) (PV.int .i64 0) (PV.bool false) (PV.bool false) (PV.bool false) (PV.bool false) (PV.int .i64 0) (PV.int .i64 0) x0 (PV.bool true)
 else
 bif x0.toStr.data.toList==(ByteArray.mk #[109,117,108]).data.toList then
 fK call k (PV.int .i64 0) (PV.int .i64 0) (PV.int .i64 0) (PV.bool false) (PV.bool false) (PV.bool false) (PV.bool false) (PV.int .i64 0) (PV.int .i64 0) x0 (PV.bool true)
 else
 bif x0.toStr.data.toList==(ByteArray.mk #[100,105,118]).data.toList then
 fK call k (PV.int .i64 0) (PV.int .i64 0) (PV.int .i64 0) (PV.bool false) (PV.bool false) (PV.bool false) (PV.bool false) (PV.int .i64 0) (PV.int .i64 0) x0 (PV.bool true)
 else
 bif x0.toStr.data.toList==(ByteArray.mk #[109,111,100]).data.toList then
 fK call k (PV.int .i64 0) (PV.int .i64 0) (PV.int .i64 0) (PV.bool false) (PV.bool false) (PV.bool false) (PV.bool false) (PV.int .i64 0) (PV.int .i64 0) x0 (PV.bool true)
 else
 bif x0.toStr.data.toList==(ByteArray.mk #[109,105,110]).data.toList then
 fK call k (PV.int .i64 0) (PV.int .i64 0) (PV.int .i64 0) (PV.bool false) (PV.bool false) (PV.bool false) (PV.bool false) (PV.int .i64 0) (PV.int .i64 0) x0 (PV.bool true)
 else
 bif x0.toStr.data.toList==(ByteArray.mk #[109,97,120]).data.toList then
 fK call k (PV.int .i64 0) (PV.int .i64 0) (PV.int .i64 0) (PV.bool false) (PV.bool false) (PV.bool false) (PV.bool false) (PV.int .i64 0) (PV.int .i64 0) x0 (PV.bool true)
 else
 bif x0.toStr.data.toList==(ByteArray.mk #[108,116]).data.toList then
 fK call k (PV.int .i64 0) (PV.int .i64 0) (PV.int .i64 0) (PV.bool false) (PV.bool false) (PV.bool false) (PV.bool false) (PV.int .i64 0) (PV.int .i64 0) x0 (PV.bool true)
 else
 bif x0.toStr.data.toList==(ByteArray.mk #[108,101]).data.toList then
 fK call k (PV.int .i64 0) (PV.int .i64 0) (PV.int .i64 0) (PV.bool false) (PV.bool false) (PV.bool false) (PV.bool false) (PV.int .i64 0) (PV.int .i64 0) x0 (PV.bool true)
 else
 bif x0.toStr.data.toList==(ByteArray.mk #[101,113]).data.toList then
 fK call k (PV.int .i64 0) (PV.int .i64 0) (PV.int .i64 0) (PV.bool false) (PV.bool false) (PV.bool false) (PV.bool false) (PV.int .i64 0) (PV.int .i64 0) x0 (PV.bool true)
 else
 bif x0.toStr.data.toList==(ByteArray.mk #[110,101]).data.toList then
 fK call k (PV.int .i64 0) (PV.int .i64 0) (PV.int .i64 0) (PV.bool false) (PV.bool false) (PV.bool false) (PV.bool false) (PV.int .i64 0) (PV.int .i64 0) x0 (PV.bool true)
 else
 bif x0.toStr.data.toList==(ByteArray.mk #[97,110,100]).data.toList then
 fK call k (PV.int .i64 0) (PV.int .i64 0) (PV.int .i64 0) (PV.bool false) (PV.bool false) (PV.bool false) (PV.bool false) (PV.int .i64 0) (PV.int .i64 0) x0 (PV.bool true)
 else
 bif x0.toStr.data.toList==(ByteArray.mk #[111,114]).data.toList then
 fK call k (PV.int .i64 0) (PV.int .i64 0) (PV.int .i64 0) (PV.bool false) (PV.bool false) (PV.bool false) (PV.bool false) (PV.int .i64 0) (PV.int .i64 0) x0 (PV.bool true)
 else
 bif x0.toStr.data.toList==(ByteArray.mk #[120,111,114]).data.toList then
 fK call k (PV.int .i64 0) (PV.int .i64 0) (PV.int .i64 0) (PV.bool false) (PV.bool false) (PV.bool false) (PV.bool false) (PV.int .i64 0) (PV.int .i64 0) x0 (PV.bool true)
 else
 bif x0.toStr.data.toList==(ByteArray.mk #[115,104,108]).data.toList then
 fK call k (PV.int .i64 0) (PV.int .i64 0) (PV.int .i64 0) (PV.bool false) (PV.bool false) (PV.bool false) (PV.bool false) (PV.int .i64 0) (PV.int .i64 0) x0 (PV.bool true)
 else
 bif x0.toStr.data.toList==(ByteArray.mk #[115,104,114]).data.toList then
 fK call k (PV.int .i64 0) (PV.int .i64 0) (PV.int .i64 0) (PV.bool false) (PV.bool false) (PV.bool false) (PV.bool false) (PV.int .i64 0) (PV.int .i64 0) x0 (PV.bool true)
 else
 bif x0.toStr.data.toList==(ByteArray.mk #[112,105,99,107]).data.toList then
 some ([.pv (.st 121) (PV.agg [PV.int .i64 3,PV.int .i64 1,PV.int .i64 0,PV.bool false,PV.bool false,PV.bool false,PV.bool false,PV.int .i64 0,PV.int .i64 0]), .pv .bool (PV.bool true)],[])
 else
 bif x0.toStr.data.toList==(ByteArray.mk #[102,105,116]).data.toList then
 some ([.pv (.st 121) (PV.agg [PV.int .i64 1,PV.int .i64 1,PV.int .i64 0,PV.bool false,PV.bool false,PV.bool false,PV.bool true,PV.int .i64 0,PV.int .i64 0]), .pv .bool (PV.bool true)],[])
 else
 bif x0.toStr.data.toList==(ByteArray.mk #[100,101,108,97,121]).data.toList then
 some ([.pv (.st 121) (PV.agg [PV.int .i64 1,PV.int .i64 1,PV.int .i64 0,PV.bool true,PV.bool false,PV.bool false,PV.bool false,PV.int .i64 0,PV.int .i64 0]), .pv .bool (PV.bool true)],[])
 else
 bif x0.toStr.data.toList==(ByteArray.mk #[118,97,114,121]).data.toList then
 some ([.pv (.st 121) (PV.agg [PV.int .i64 2,PV.int .i64 1,PV.int .i64 0,PV.bool true,PV.bool true,PV.bool false,PV.bool false,PV.int .i64 0,PV.int .i64 0]), .pv .bool (PV.bool true)],[])
 else
 bif x0.toStr.data.toList==(ByteArray.mk #[116,97,98,108,101]).data.toList then
 some ([.pv (.st 121) (PV.agg [PV.int .i64 1,PV.int .i64 1,PV.int .i64 0,PV.bool false,PV.bool false,PV.bool false,PV.bool false,PV.int .i64 1,PV.int .i64 256]), .pv .bool (PV.bool true)],[])
 else
 bif x0.toStr.data.toList==(ByteArray.mk #[115,116,111,114,101]).data.toList then
 some ([.pv (.st 121) (PV.agg [PV.int .i64 3,PV.int .i64 1,PV.int .i64 0,PV.bool false,PV.bool false,PV.bool false,PV.bool false,PV.int .i64 1,PV.int .i64 256]), .pv .bool (PV.bool true)],[])
 else
 bif x0.toStr.data.toList==(ByteArray.mk #[119,97,118,101]).data.toList then
 some ([.pv (.st 121) (PV.agg [PV.int .i64 0,PV.int .i64 1,PV.int .i64 0,PV.bool false,PV.bool false,PV.bool false,PV.bool false,PV.int .i64 1,PV.int .i64 256]), .pv .bool (PV.bool true)],[])
 else
 bif x0.toStr.data.toList==(ByteArray.mk #[107,110,111,98]).data.toList then
 some ([.pv (.st 121) (PV.agg [PV.int .i64 0,PV.int .i64 1,PV.int .i64 0,PV.bool false,PV.bool false,PV.bool true,PV.bool false,PV.int .i64 4,PV.int .i64 4]), .pv .bool (PV.bool true)],[])
 else
 bif x0.toStr.data.toList==(ByteArray.mk #[115,104,111,119]).data.toList then
 some ([.pv (.st 121) (PV.agg [PV.int .i64 1,PV.int .i64 1,PV.int .i64 0,PV.bool false,PV.bool false,PV.bool true,PV.bool false,PV.int .i64 0,PV.int .i64 0]), .pv .bool (PV.bool true)],[])
 else
 bif x0.toStr.data.toList==(ByteArray.mk #[112,97,114]).data.toList then
 qi call k (PV.int .i64 0) (PV.int .i64 0) (PV.int .i64 0) (PV.bool false) (PV.bool false) (PV.bool false) (PV.bool false) (PV.int .i64 0) (PV.int .i64 0) x0 (PV.bool true)
 else
 bif x0.toStr.data.toList==(ByteArray.mk #[115,101,113]).data.toList then
 qi call k (PV.int .i64 0) (PV.int .i64 0) (PV.int .i64 0) (PV.bool false) (PV.bool false) (PV.bool false) (PV.bool false) (PV.int .i64 0) (PV.int .i64 0) x0 (PV.bool true)
 else
 bif x0.toStr.data.toList==(ByteArray.mk #[115,112,108,105,116]).data.toList then
 qi call k (PV.int .i64 0) (PV.int .i64 0) (PV.int .i64 0) (PV.bool false) (PV.bool false) (PV.bool false) (PV.bool false) (PV.int .i64 0) (PV.int .i64 0) x0 (PV.bool true)
 else
 bif x0.toStr.data.toList==(ByteArray.mk #[109,101,114,103,101]).data.toList then
 qi call k (PV.int .i64 0) (PV.int .i64 0) (PV.int .i64 0) (PV.bool false) (PV.bool false) (PV.bool false) (PV.bool false) (PV.int .i64 0) (PV.int .i64 0) x0 (PV.bool true)
 else
 bif x0.toStr.data.toList==(ByteArray.mk #[114,101,99]).data.toList then
 qi call k (PV.int .i64 0) (PV.int .i64 0) (PV.int .i64 0) (PV.bool false) (PV.bool false) (PV.bool false) (PV.bool false) (PV.int .i64 0) (PV.int .i64 0) x0 (PV.bool true)
 else
 bif x0.toStr.data.toList==(ByteArray.mk #[117,112]).data.toList then
 zo call k (PV.int .i64 0) (PV.int .i64 0) (PV.int .i64 0) (PV.bool false) (PV.bool false) (PV.bool false) (PV.bool false) (PV.int .i64 0) (PV.int .i64 0) x0 (PV.bool true)
 else
 bif x0.toStr.data.toList==(ByteArray.mk #[100,111,119,110]).data.toList then
 zo call k (PV.int .i64 0) (PV.int .i64 0) (PV.int .i64 0) (PV.bool false) (PV.bool false) (PV.bool false) (PV.bool false) (PV.int .i64 0) (PV.int .i64 0) x0 (PV.bool true)
 else
 bif x0.toStr.data.toList==(ByteArray.mk #[103,97,116,101]).data.toList then
 zp call k (PV.int .i64 0) (PV.int .i64 0) (PV.int .i64 0) (PV.bool false) (PV.bool false) (PV.bool false) (PV.bool false) (PV.int .i64 0) (PV.int .i64 0) (PV.bool true)
 else
 bif x0.toStr.data.toList==(ByteArray.mk #[114,101,115,101,116]).data.toList then
 zp call k (PV.int .i64 0) (PV.int .i64 0) (PV.int .i64 0) (PV.bool false) (PV.bool false) (PV.bool false) (PV.bool false) (PV.int .i64 0) (PV.int .i64 0) (PV.bool true)
 else
 some ([.pv (.st 121) (PV.agg [PV.int .i64 0,PV.int .i64 0,PV.int .i64 0,PV.bool false,PV.bool false,PV.bool false,PV.bool false,PV.int .i64 0,PV.int .i64 0]), .pv .bool (PV.bool false)],[]):=by rw[aC];kernel_rfl
end Go.V
