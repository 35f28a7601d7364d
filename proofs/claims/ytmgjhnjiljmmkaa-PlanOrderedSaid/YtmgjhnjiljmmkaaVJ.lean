/- Such equations, fourth part: places, need, the reference's Check, the law, Waits, Contains. Conditions: those that each theorem names. (Names are short so that the claim keeps to its size.) -/
import Derived.Test.YtmgjhnjiljmmkaaVH
set_option linter.unusedSimpArgs false
set_option linter.unusedVariables false
set_option maxRecDepth 100000
namespace Go.V
open Go.Proofs
variable (call:aw) (k m1 m2 m3 n:Nat) (x0 x1 x2 x3 x4 x5 x6 x7 x8 x9:PV) (v0:PV) (w0:List PV) (u0:Nat) (v1:PV) (w1:List PV) (u1:Nat) (v2:PV) (w2:List PV) (u2:Nat) (v3:PV) (w3:List PV) (u3:Nat) (v4:PV) (w4:List PV) (u4:Nat) (v5:PV) (w5:List PV) (u5:Nat) (v6:PV) (w6:List PV) (u6:Nat) (v7:PV) (w7:List PV) (u7:Nat) (v8:PV) (w8:List PV) (u8:Nat) (v9:PV) (w9:List PV) (u9:Nat) (v10:PV) (w10:List PV) (u10:Nat) (v11:PV) (w11:List PV) (u11:Nat) (v12:PV) (w12:List PV) (u12:Nat) (v13:PV) (w13:List PV) (u13:Nat) (v14:PV) (w14:List PV) (u14:Nat) (v15:PV) (w15:List PV) (u15:Nat) (v16:PV) (w16:List PV) (u16:Nat) (v17:PV) (w17:List PV) (u17:Nat) (v18:PV) (w18:List PV) (u18:Nat) (v19:PV) (w19:List PV) (u19:Nat) (v20:PV) (w20:List PV) (u20:Nat) (v21:PV) (w21:List PV) (u21:Nat) (v22:PV) (w22:List PV) (u22:Nat) (v23:PV) (w23:List PV) (u23:Nat) (v24:PV) (w24:List PV) (u24:Nat) (v25:PV) (w25:List PV) (u25:Nat) (v26:PV) (w26:List PV) (u26:Nat) (v27:PV) (w27:List PV) (u27:Nat) (v28:PV) (w28:List PV) (u28:Nat) (v29:PV) (w29:List PV) (u29:Nat) (v30:PV) (w30:List PV) (u30:Nat) (v31:PV) (w31:List PV) (u31:Nat) (v32:PV) (w32:List PV) (u32:Nat) (v33:PV) (w33:List PV) (u33:Nat) (v34:PV) (w34:List PV) (u34:Nat) (v35:PV) (w35:List PV) (u35:Nat) (v36:PV) (w36:List PV) (u36:Nat) (v37:PV) (w37:List PV) (u37:Nat) (v38:PV) (w38:List PV) (u38:Nat) (v39:PV) (w39:List PV) (u39:Nat) (v40:PV) (w40:List PV) (u40:Nat) (v41:PV) (w41:List PV) (u41:Nat) (v42:PV) (w42:List PV) (u42:Nat) (v43:PV) (w43:List PV) (u43:Nat) (v44:PV) (w44:List PV) (u44:Nat) (v45:PV) (w45:List PV) (u45:Nat) (v46:PV) (w46:List PV) (u46:Nat) (v47:PV) (w47:List PV) (u47:Nat) (v48:PV) (w48:List PV) (u48:Nat) (v49:PV) (w49:List PV) (u49:Nat) (v50:PV) (w50:List PV) (u50:Nat) (v51:PV) (w51:List PV) (u51:Nat) (v52:PV) (w52:List PV) (u52:Nat) (v53:PV) (w53:List PV) (u53:Nat) (v54:PV) (w54:List PV) (u54:Nat) (v55:PV) (w55:List PV) (u55:Nat) (v56:PV) (w56:List PV) (u56:Nat) (v57:PV) (w57:List PV) (u57:Nat) (v58:PV) (w58:List PV) (u58:Nat) (v59:PV) (w59:List PV) (u59:Nat)
noncomputable def LL:R:=jn call k 34 11 [.b,.b,.b,.a,.b,.aD,.lp n,.b,.b,.a,.aD,.b,.b,.x,.a] (dd::dd::dd:: .o (.box 36 [.pv (.sl 47) v0, .pv (.sl 57) v1, .pv (.int .i64) v2, .pv .bool v3]):: .o (.arr 80 w4)::ds 14 (AV.al 4 []::ds 10 (AV.ptr 3 [] 1::oL 57 v5::oI v6::oI v7::ds 12 (oB v8::ds 57 []))))
noncomputable def LM:R:=jn call k 34 21 [.b,.b,.b,.b,.b,.a,.b,.aD,.lp m1,.b,.b,.a,.aD,.b,.b,.aD,.lp n,.b,.b,.a,.aD,.b,.a,.b,.x,.a] (dd::dd::dd:: .o (.box 36 [.pv (.sl 47) v0, .pv (.sl 57) v1, .pv (.int .i64) v2, .pv .bool v3]):: .o (.arr 80 w4)::ds 4 (oB v5::oI v6:: .o (.box 47 [.pv (.sl 3) v7, .pv .bool v8])::oI v9::oI v10::ds 5 (AV.al 4 []::ds 28 (AV.ptr 3 [] 0::oL 47 v11::oI v12::oI v13::ds 4 (AV.ptr 11 [] 0::oL 3 v14::oI v15::oI v16::ds 11 (oB v17::ds 32 []))))))
noncomputable def zO:R:=jn call k 34 23 [.b,.b,.b,.b,.b,.a,.b,.aD,.lp m1,.b,.b,.a,.aD,.b,.b,.aD,.lp n,.b,.b,.a,.aD,.b,.b,.b] (dd::dd::dd:: .o (.box 36 [.pv (.sl 47) v0, .pv (.sl 57) v1, .pv (.int .i64) v2, .pv .bool v3]):: .o (.arr 80 w4)::ds 4 (oB v5::oI v6:: .o (.box 47 [.pv (.sl 3) v7, .pv .bool v8])::oI v9::oI v10::ds 5 (AV.al 4 []::ds 28 (AV.ptr 3 [] 0::oL 47 v11::oI v12::oI v13::ds 4 (AV.ptr 11 [] 0::oL 3 v14::oI v15::oI v16::ds 44 [])))))
noncomputable def zP:R:=lq call k 34 n [.b,.b,.b,.b,.b,.a,.b,.aD,.lp m1,.b,.b,.a,.aD,.b,.b,.aD] (dd::dd::dd:: .o (.box 36 [.pv (.sl 47) v0, .pv (.sl 57) v1, .pv (.int .i64) v2, .pv .bool v3]):: .o (.arr 80 w4)::ds 4 (oB v5::oI v6:: .o (.box 47 [.pv (.sl 3) v7, .pv .bool v8])::ds 7 (AV.al 4 []::ds 28 (AV.ptr 3 [] 0::oL 47 v9::oI v10::oI v11::ds 4 (AV.ptr 11 [] 0::oL 3 v12::oI v13::oI v14::ds 44 [])))))
noncomputable def zQ:R:=jn call k 34 30 [.b,.b,.b,.b,.b,.b,.a,.b,.aD,.lp n,.b,.b,.b] (ds 4 (.o (.arr 80 w0)::ds 4 (oB v1::ds 9 (AV.al 4 []::ds 69 (AV.al 4 []::oI v2::oI v3::ds 12 [])))))
noncomputable def vM:R:=lq call k 34 n [.b,.b,.b,.b,.b,.b,.a,.b,.aD] (ds 4 (.o (.arr 80 w0)::ds 4 (oB v1::ds 9 (AV.al 4 []::ds 69 (AV.al 4 []::oI v2::oI v3::ds 12 [])))))
noncomputable def sA:R:=lq call k 34 n [.b,.b,.b,.b,.b,.a,.b,.aD] (dd::dd::dd:: .o (.box 36 [.pv (.sl 47) v0, .pv (.sl 57) v1, .pv (.int .i64) v2, .pv .bool v3]):: .o (.arr 80 w4)::ds 4 (oB v5::ds 9 (AV.al 4 []::ds 28 (AV.ptr 3 [] 0::oL 47 v6::oI v7::oI v8::ds 52 []))))
noncomputable def GD:R:=lq call k 34 n [.b,.b,.b,.a,.b,.aD] (dd::dd::dd:: .o (.box 36 [.pv (.sl 47) v0, .pv (.sl 57) v1, .pv (.int .i64) v2, .pv .bool v3]):: .o (.arr 80 w4)::ds 14 (AV.al 4 []::ds 10 (AV.ptr 3 [] 1::oL 57 v5::oI v6::oI v7::ds 70 [])))
noncomputable def GF:R:=lq call k 34 n [.b,.b,.a,.b,.aD] (dd::dd::dd:: .o (.box 36 [.pv (.sl 47) v0, .pv (.sl 57) v1, .pv (.int .i64) v2, .pv .bool v3]):: .o (.arr 80 w4)::ds 14 (AV.al 4 []::dd::oI v5::oI v6::ds 81 []))
theorem IM:zO call k m1 n v0 v1 v2 v3 w4 v5 v6 v7 v8 v9 v10 v11 v12 v13 v14 v15 v16=
 bif aj (0) (v10.toInt)&&au (v10.toInt) ((w4.length:Int))then
 zP call k m1 n v0 v1 v2 v3 (w4.set v10.toInt.toNat (PV.agg (eo (PV.agg [PV.int .i64 0,PV.int .i64 0]).cells [(0,bif aO (.int .i64)then bB v6 0 1 else [v6]),(1,bif aO (.int .i64)then bB v9 0 1 else [v9])]))) v5 v6 v7 v8 v11 v12 v13 v14 v15 (PV.int .i64 (IntKind.i64.wrap (v16.toInt+1)))
 else
 none:=by rw[zO,aE];kernel_rfl
theorem Cc:zP call k m1 (n+1) v0 v1 v2 v3 w4 v5 v6 v7 v8 v9 v10 v11 v12 v13 v14=
 bif au (v14.toInt) (v13.toInt)then
 bif aj (0) (v14.toInt)&&au (v14.toInt) ((v12.toList.length:Int))then
 bif au ((nth default v12.toList v14.toInt.toNat).toInt) (0)then
 LM call k m1 n v0 v1 v2 v3 w4 v5 v6 v7 v8 v14 (nth default v12.toList v14.toInt.toNat) v9 v10 v11 v12 v13 v14 (PV.bool true)
 else
 bif aj ((w4.length:Int)) ((nth default v12.toList v14.toInt.toNat).toInt)then
 LM call k m1 n v0 v1 v2 v3 w4 v5 v6 v7 v8 v14 (nth default v12.toList v14.toInt.toNat) v9 v10 v11 v12 v13 v14 (PV.bool true)
 else
 bif v5.toBool then
 zO call k m1 n v0 v1 v2 v3 w4 (PV.bool true) v6 v7 v8 v14 (nth default v12.toList v14.toInt.toNat) v9 v10 v11 v12 v13 v14
 else
 bif aj (0) ((nth default v12.toList v14.toInt.toNat).toInt)&&au ((nth default v12.toList v14.toInt.toNat).toInt) ((w4.length:Int))then
 zO call k m1 n v0 v1 v2 v3 w4 (PV.bool (aj (0) (((nth default w4 (nth default v12.toList v14.toInt.toNat).toInt.toNat).cell 0).toInt))) v6 v7 v8 v14 (nth default v12.toList v14.toInt.toNat) v9 v10 v11 v12 v13 v14
 else
 none
 else
 none
 else
 sA call k m1 v0 v1 v2 v3 w4 v5 v9 v10 (PV.int .i64 (IntKind.i64.wrap (v11.toInt+1))):=by kernel_rfl
theorem IN:zQ call k n w0 v1 v2 v3=
 vM call k n w0 v1 v2 (PV.int .i64 (IntKind.i64.wrap (v3.toInt+1))):=by rw[zQ,aE];kernel_rfl
theorem Cd:vM call k (n+1) w0 v1 v2 v3=
 bif au (v3.toInt) (v2.toInt)then
 bif aj (0) (v3.toInt)&&au (v3.toInt) ((w0.length:Int))then
 bif v1.toBool then
 zQ call k n w0 (PV.bool true) v2 v3
 else
 zQ call k n w0 (PV.bool (au (((nth default w0 v3.toInt.toNat).cell 0).toInt) (0))) v2 v3
 else
 none
 else
 bif v1.toBool then
 some ([.pv (.sl 80) (PV.sl []), .pv (.int .i64) (PV.int .i64 150)],[])
 else
 some ([.pv (.sl 80) (PV.sl w0), .pv (.int .i64) (PV.int .i64 0)],[]):=by kernel_rfl
theorem Ce:sA call k (n+1) v0 v1 v2 v3 w4 v5 v6 v7 v8=
 bif au (v8.toInt) (v7.toInt)then
 bif aj (0) (v8.toInt)&&au (v8.toInt) ((v6.toList.length:Int))then
 zP call k n k v0 v1 v2 v3 w4 v5 v8 ((nth default v6.toList v8.toInt.toNat).cell 0) ((nth default v6.toList v8.toInt.toNat).cell 1) v6 v7 v8 ((nth default v6.toList v8.toInt.toNat).cell 0) (PV.int .i64 (Nat.cast ((nth default v6.toList v8.toInt.toNat).cell 0).toList.length:Int)) (PV.int .i64 0)
 else
 none
 else
 vM call k k w4 v5 (PV.int .i64 (w4.length:Int)) (PV.int .i64 0):=by kernel_rfl
theorem EF:GD call k (n+1) v0 v1 v2 v3 w4 v5 v6 v7=
 bif au (v7.toInt) (v6.toInt)then
 bif aj (0) (v7.toInt)&&au (v7.toInt) ((v5.toList.length:Int))then
 bif au (((nth default v5.toList v7.toInt.toNat).cell 0).toInt) (0)then
 LL call k n v0 v1 v2 v3 w4 v5 v6 v7 (PV.bool true)
 else
 bif aj ((w4.length:Int)) (((nth default v5.toList v7.toInt.toNat).cell 0).toInt)then
 LL call k n v0 v1 v2 v3 w4 v5 v6 v7 (PV.bool true)
 else
 GD call k n v0 v1 v2 v3 w4 v5 v6 (PV.int .i64 (IntKind.i64.wrap (v7.toInt+1)))
 else
 none
 else
 sA call k k v0 v1 v2 v3 w4 (PV.bool false) v0 (PV.int .i64 (v0.toList.length:Int)) (PV.int .i64 0):=by kernel_rfl
theorem EG:GF call k (n+1) v0 v1 v2 v3 w4 v5 v6=
 bif au (v6.toInt) (v5.toInt)then
 bif aj (0) (v6.toInt)&&au (v6.toInt) ((w4.length:Int))then
 GF call k n v0 v1 v2 v3 (w4.set v6.toInt.toNat (PV.agg (setCells (bB (nth default w4 v6.toInt.toNat) 0 2) 0 (fI Try.prog 3 (PV.int .i64 (-1)))))) v5 (PV.int .i64 (IntKind.i64.wrap (v6.toInt+1)))
 else
 none
 else
 GD call k k v0 v1 v2 v3 w4 v1 (PV.int .i64 (v1.toList.length:Int)) (PV.int .i64 0):=by kernel_rfl
theorem R34:aW Try.prog H0 call k 34 [.pv (.st 25) x0, .pv (.st 36) x1]=
 bif aj (((x0.cell 1).toList.length:Int)) (((x0.cell 1).toList.length:Int))&&(aj (((x0.cell 1).toList.length:Int)) (140737488355328)&&aj ((Nat.cast 16:Int)* ((x0.cell 1).toList.length:Int)) (140737488355328))then
 GF call k k (x1.cell 0) (x1.cell 1) (x1.cell 2) (x1.cell 3) (List.replicate (((x0.cell 1).toList.length:Int)).toNat (PV.agg [PV.int .i64 0,PV.int .i64 0])) (PV.int .i64 (Nat.cast (List.replicate (((x0.cell 1).toList.length:Int)).toNat (PV.agg [PV.int .i64 0,PV.int .i64 0])).length:Int)) (PV.int .i64 0)
 else
 none:=by rw[aC];kernel_rfl
end Go.V
namespace Go.V
open Go.Proofs
variable (call:aw) (k m1 m2 m3 n:Nat) (x0 x1 x2 x3 x4 x5 x6 x7 x8 x9:PV) (v0:PV) (w0:List PV) (u0:Nat) (v1:PV) (w1:List PV) (u1:Nat) (v2:PV) (w2:List PV) (u2:Nat) (v3:PV) (w3:List PV) (u3:Nat) (v4:PV) (w4:List PV) (u4:Nat) (v5:PV) (w5:List PV) (u5:Nat) (v6:PV) (w6:List PV) (u6:Nat) (v7:PV) (w7:List PV) (u7:Nat) (v8:PV) (w8:List PV) (u8:Nat) (v9:PV) (w9:List PV) (u9:Nat) (v10:PV) (w10:List PV) (u10:Nat) (v11:PV) (w11:List PV) (u11:Nat) (v12:PV) (w12:List PV) (u12:Nat) (v13:PV) (w13:List PV) (u13:Nat) (v14:PV) (w14:List PV) (u14:Nat) (v15:PV) (w15:List PV) (u15:Nat) (v16:PV) (w16:List PV) (u16:Nat) (v17:PV) (w17:List PV) (u17:Nat) (v18:PV) (w18:List PV) (u18:Nat) (v19:PV) (w19:List PV) (u19:Nat) (v20:PV) (w20:List PV) (u20:Nat) (v21:PV) (w21:List PV) (u21:Nat) (v22:PV) (w22:List PV) (u22:Nat) (v23:PV) (w23:List PV) (u23:Nat) (v24:PV) (w24:List PV) (u24:Nat) (v25:PV) (w25:List PV) (u25:Nat) (v26:PV) (w26:List PV) (u26:Nat) (v27:PV) (w27:List PV) (u27:Nat) (v28:PV) (w28:List PV) (u28:Nat) (v29:PV) (w29:List PV) (u29:Nat) (v30:PV) (w30:List PV) (u30:Nat) (v31:PV) (w31:List PV) (u31:Nat) (v32:PV) (w32:List PV) (u32:Nat) (v33:PV) (w33:List PV) (u33:Nat) (v34:PV) (w34:List PV) (u34:Nat) (v35:PV) (w35:List PV) (u35:Nat) (v36:PV) (w36:List PV) (u36:Nat) (v37:PV) (w37:List PV) (u37:Nat) (v38:PV) (w38:List PV) (u38:Nat) (v39:PV) (w39:List PV) (u39:Nat) (v40:PV) (w40:List PV) (u40:Nat) (v41:PV) (w41:List PV) (u41:Nat) (v42:PV) (w42:List PV) (u42:Nat) (v43:PV) (w43:List PV) (u43:Nat) (v44:PV) (w44:List PV) (u44:Nat) (v45:PV) (w45:List PV) (u45:Nat) (v46:PV) (w46:List PV) (u46:Nat) (v47:PV) (w47:List PV) (u47:Nat) (v48:PV) (w48:List PV) (u48:Nat) (v49:PV) (w49:List PV) (u49:Nat) (v50:PV) (w50:List PV) (u50:Nat) (v51:PV) (w51:List PV) (u51:Nat) (v52:PV) (w52:List PV) (u52:Nat) (v53:PV) (w53:List PV) (u53:Nat) (v54:PV) (w54:List PV) (u54:Nat) (v55:PV) (w55:List PV) (u55:Nat) (v56:PV) (w56:List PV) (u56:Nat) (v57:PV) (w57:List PV) (u57:Nat) (v58:PV) (w58:List PV) (u58:Nat) (v59:PV) (w59:List PV) (u59:Nat)
noncomputable def vO:R:=jn call k 20 18 [.b,.b,.b,.a,.b,.aD,.lp m1,.b,.b,.a,.aD,.b,.b,.b,.b,.a,.b,.aD,.lp n,.b,.b,.b] (dd::oI v0:: .o (.box 25 [.pv (.int .i64) v1, .pv (.sl 55) v2, .pv (.sl 3) v3])::dd:: .o (.box 62 [.arr 45 w4, .arr 45 w5])::oI v6:: .o (.box 62 [.own 45 4 w7 none, .own 45 4 w8 none])::oI v9:: .o (.box 55 [.pv Ty.str v10, .pv Ty.str v11, .pv (.int .i64) v12, .pv (.int .i64) v13, .pv (.sl 128) v14, .pv Ty.str v15, .pv (.int .i64) v16, .pv (.int .i64) v17, .pv Ty.str v18, .pv Ty.str v19, .pv (.sl 3) v20, .pv (.sl 25) v21])::dd::dd::oB v22::ds 14 (AV.ptr 2 [] 1::oL 55 v23::oI v24::oI v25::ds 54 (AV.ptr 8 [] 10::oL 3 v26::oI v27::oI v28::ds 70 [])))
noncomputable def qo:R:=jn call k 20 29 [.b,.b,.b,.a,.b,.aD,.lp m1,.b,.b,.a,.aD,.b,.b,.b,.b,.b,.b,.b,.aD,.lp n,.b,.b,.b] (dd::oI v0:: .o (.box 25 [.pv (.int .i64) v1, .pv (.sl 55) v2, .pv (.sl 3) v3])::dd:: .o (.box 62 [.arr 45 w4, .arr 45 w5])::oI v6:: .o (.box 62 [.own 45 4 w7 none, .own 45 4 w8 none])::oI v9:: .o (.box 55 [.pv Ty.str v10, .pv Ty.str v11, .pv (.int .i64) v12, .pv (.int .i64) v13, .pv (.sl 128) v14, .pv Ty.str v15, .pv (.int .i64) v16, .pv (.int .i64) v17, .pv Ty.str v18, .pv Ty.str v19, .pv (.sl 3) v20, .pv (.sl 25) v21])::dd::dd::oB v22::ds 14 (AV.ptr 2 [] 1::oL 55 v23::oI v24::oI v25::ds 90 (AV.ptr 8 [] 10::oL 3 v26::oI v27::oI v28::ds 34 [])))
noncomputable def zR:R:=lq call k 20 n [.b,.b,.b,.a,.b,.aD,.lp m1,.b,.b,.a,.aD,.b,.b,.b,.b,.b,.b,.b,.aD] (dd::oI v0:: .o (.box 25 [.pv (.int .i64) v1, .pv (.sl 55) v2, .pv (.sl 3) v3])::dd:: .o (.box 62 [.arr 45 w4, .arr 45 w5])::oI v6:: .o (.box 62 [.own 45 4 w7 none, .own 45 4 w8 none])::oI v9:: .o (.box 55 [.pv Ty.str v10, .pv Ty.str v11, .pv (.int .i64) v12, .pv (.int .i64) v13, .pv (.sl 128) v14, .pv Ty.str v15, .pv (.int .i64) v16, .pv (.int .i64) v17, .pv Ty.str v18, .pv Ty.str v19, .pv (.sl 3) v20, .pv (.sl 25) v21])::dd::dd::oB v22::ds 14 (AV.ptr 2 [] 1::oL 55 v23::oI v24::oI v25::ds 90 (AV.ptr 8 [] 10::oL 3 v26::oI v27::oI v28::ds 34 [])))
noncomputable def zS:R:=jn call k 20 24 [.b,.b,.b,.a,.b,.aD,.lp n,.b,.b,.a,.aD,.b,.b,.b,.b,.b,.b,.a] (dd::oI v0:: .o (.box 25 [.pv (.int .i64) v1, .pv (.sl 55) v2, .pv (.sl 3) v3])::dd:: .o (.box 62 [.arr 45 w4, .arr 45 w5])::oI v6:: .o (.box 62 [.own 45 4 w7 none, .own 45 4 w8 none])::oI v9:: .o (.box 55 [.pv Ty.str v10, .pv Ty.str v11, .pv (.int .i64) v12, .pv (.int .i64) v13, .pv (.sl 128) v14, .pv Ty.str v15, .pv (.int .i64) v16, .pv (.int .i64) v17, .pv Ty.str v18, .pv Ty.str v19, .pv (.sl 3) v20, .pv (.sl 25) v21])::dd::dd::oB v22::ds 14 (AV.ptr 2 [] 1::oL 55 v23::oI v24::oI v25::ds 128 []))
noncomputable def Ri:R:=lq call k 20 n [.b,.b,.b,.a,.b,.aD,.lp m1,.b,.b,.a,.aD,.b,.b,.b,.b,.b,.a,.b,.aD] (dd::oI v0:: .o (.box 25 [.pv (.int .i64) v1, .pv (.sl 55) v2, .pv (.sl 3) v3])::dd:: .o (.box 62 [.arr 45 w4, .arr 45 w5])::oI v6:: .o (.box 62 [.own 45 4 w7 none, .own 45 4 w8 none])::oI v9:: .o (.box 55 [.pv Ty.str v10, .pv Ty.str v11, .pv (.int .i64) v12, .pv (.int .i64) v13, .pv (.sl 128) v14, .pv Ty.str v15, .pv (.int .i64) v16, .pv (.int .i64) v17, .pv Ty.str v18, .pv Ty.str v19, .pv (.sl 3) v20, .pv (.sl 25) v21])::dd::dd::oB v22::ds 14 (AV.ptr 2 [] 1::oL 55 v23::oI v24::oI v25::ds 76 (oL 3 v26::oI v27::oI v28::ds 49 [])))
noncomputable def rk:R:=lq call k 20 n [.b,.b,.b,.a,.b,.aD,.lp m1,.b,.b,.a,.aD,.b,.b,.b,.b,.b,.a,.b,.aD] (dd::oI v0:: .o (.box 25 [.pv (.int .i64) v1, .pv (.sl 55) v2, .pv (.sl 3) v3])::dd:: .o (.box 62 [.arr 45 w4, .arr 45 w5])::oI v6:: .o (.box 62 [.own 45 4 w7 none, .own 45 4 w8 none])::oI v9:: .o (.box 55 [.pv Ty.str v10, .pv Ty.str v11, .pv (.int .i64) v12, .pv (.int .i64) v13, .pv (.sl 128) v14, .pv Ty.str v15, .pv (.int .i64) v16, .pv (.int .i64) v17, .pv Ty.str v18, .pv Ty.str v19, .pv (.sl 3) v20, .pv (.sl 25) v21])::dd::dd::oB v22::ds 14 (AV.ptr 2 [] 1::oL 55 v23::oI v24::oI v25::ds 76 (.o (.arr 3 w26)::oI v27::oI v28::ds 49 [])))
noncomputable def zT:R:=lq call k 20 n [.b,.b,.b,.a,.b,.aD,.lp m1,.b,.b,.a,.aD,.b,.b,.b,.b,.a,.b,.aD] (dd::oI v0:: .o (.box 25 [.pv (.int .i64) v1, .pv (.sl 55) v2, .pv (.sl 3) v3])::dd:: .o (.box 62 [.arr 45 w4, .arr 45 w5])::oI v6:: .o (.box 62 [.own 45 4 w7 none, .own 45 4 w8 none])::oI v9:: .o (.box 55 [.pv Ty.str v10, .pv Ty.str v11, .pv (.int .i64) v12, .pv (.int .i64) v13, .pv (.sl 128) v14, .pv Ty.str v15, .pv (.int .i64) v16, .pv (.int .i64) v17, .pv Ty.str v18, .pv Ty.str v19, .pv (.sl 3) v20, .pv (.sl 25) v21])::dd::dd::oB v22::ds 14 (AV.ptr 2 [] 1::oL 55 v23::oI v24::oI v25::ds 54 (AV.ptr 8 [] 10::oL 3 v26::oI v27::oI v28::ds 70 [])))
noncomputable def qp:R:=jn call k 20 13 [.b,.b,.b,.a,.b,.aD,.lp n,.b,.b,.a,.aD,.b,.b,.b,.b,.a,.a] (dd::oI v0:: .o (.box 25 [.pv (.int .i64) v1, .pv (.sl 55) v2, .pv (.sl 3) v3])::dd:: .o (.box 62 [.arr 45 w4, .arr 45 w5])::oI v6:: .o (.box 62 [.own 45 4 w7 none, .own 45 4 w8 none])::oI v9:: .o (.box 55 [.pv Ty.str v10, .pv Ty.str v11, .pv (.int .i64) v12, .pv (.int .i64) v13, .pv (.sl 128) v14, .pv Ty.str v15, .pv (.int .i64) v16, .pv (.int .i64) v17, .pv Ty.str v18, .pv Ty.str v19, .pv (.sl 3) v20, .pv (.sl 25) v21])::dd::dd::oB v22::ds 14 (AV.ptr 2 [] 1::oL 55 v23::oI v24::oI v25::ds 128 []))
noncomputable def zU:R:=jn call k 20 12 [.b,.b,.b,.a,.b,.aD,.lp n,.b,.b,.a,.aD,.b,.b,.b,.a] (dd::oI v0:: .o (.box 25 [.pv (.int .i64) v1, .pv (.sl 55) v2, .pv (.sl 3) v3])::dd:: .o (.box 62 [.arr 45 w4, .arr 45 w5])::oI v6:: .o (.box 62 [.own 45 4 w7 none, .own 45 4 w8 none])::oI v9:: .o (.box 55 [.pv Ty.str v10, .pv Ty.str v11, .pv (.int .i64) v12, .pv (.int .i64) v13, .pv (.sl 128) v14, .pv Ty.str v15, .pv (.int .i64) v16, .pv (.int .i64) v17, .pv Ty.str v18, .pv Ty.str v19, .pv (.sl 3) v20, .pv (.sl 25) v21])::ds 17 (AV.ptr 2 [] 1::oL 55 v22::oI v23::oI v24::ds 128 []))
noncomputable def TF:R:=lq call k 20 n [.b,.b,.b,.a,.b,.aD,.lp m1,.b,.b,.a,.aD,.b,.b,.a,.b,.aD] (dd::oI v0:: .o (.box 25 [.pv (.int .i64) v1, .pv (.sl 55) v2, .pv (.sl 3) v3])::dd:: .o (.box 62 [.arr 45 w4, .arr 45 w5])::oI v6:: .o (.box 62 [.own 45 4 w7 none, .own 45 4 w8 none])::oI v9:: .o (.box 55 [.pv Ty.str v10, .pv Ty.str v11, .pv (.int .i64) v12, .pv (.int .i64) v13, .pv (.sl 128) v14, .pv Ty.str v15, .pv (.int .i64) v16, .pv (.int .i64) v17, .pv Ty.str v18, .pv Ty.str v19, .pv (.sl 3) v20, .pv (.sl 25) v21])::ds 17 (AV.ptr 2 [] 1::oL 55 v22::oI v23::oI v24::ds 17 (oL 3 v25::oI v26::oI v27::ds 108 [])))
noncomputable def uk:R:=lq call k 20 n [.b,.b,.b,.a,.b,.aD,.lp m1,.b,.b,.a,.aD,.b,.b,.a,.b,.aD] (dd::oI v0:: .o (.box 25 [.pv (.int .i64) v1, .pv (.sl 55) v2, .pv (.sl 3) v3])::dd:: .o (.box 62 [.arr 45 w4, .arr 45 w5])::oI v6:: .o (.box 62 [.own 45 4 w7 none, .own 45 4 w8 none])::oI v9:: .o (.box 55 [.pv Ty.str v10, .pv Ty.str v11, .pv (.int .i64) v12, .pv (.int .i64) v13, .pv (.sl 128) v14, .pv Ty.str v15, .pv (.int .i64) v16, .pv (.int .i64) v17, .pv Ty.str v18, .pv Ty.str v19, .pv (.sl 3) v20, .pv (.sl 25) v21])::ds 17 (AV.ptr 2 [] 1::oL 55 v22::oI v23::oI v24::ds 17 (.o (.arr 3 w25)::oI v26::oI v27::ds 108 [])))
noncomputable def ya:R:=lq call k 20 n [.b,.b,.b,.a,.b,.aD] (dd::oI v0:: .o (.box 25 [.pv (.int .i64) v1, .pv (.sl 55) v2, .pv (.sl 3) v3])::dd:: .o (.box 62 [.arr 45 w4, .arr 45 w5])::oI v6:: .o (.box 62 [.own 45 4 w7 none, .own 45 4 w8 none])::ds 19 (AV.ptr 2 [] 1::oL 55 v9::oI v10::oI v11::ds 128 []))
theorem IP:vO call k m1 n v0 v1 v2 v3 w4 w5 v6 w7 w8 v9 v10 v11 v12 v13 v14 v15 v16 v17 v18 v19 v20 v21 v22 v23 v24 v25 v26 v27 v28=
 zT call k m1 n v0 v1 v2 v3 w4 w5 v6 w7 w8 v9 v10 v11 v12 v13 v14 v15 v16 v17 v18 v19 v20 v21 v22 v23 v24 v25 v26 v27 (PV.int .i64 (IntKind.i64.wrap (v28.toInt+1))):=by rw[vO,aE];kernel_rfl
theorem IQ:qo call k m1 n v0 v1 v2 v3 w4 w5 v6 w7 w8 v9 v10 v11 v12 v13 v14 v15 v16 v17 v18 v19 v20 v21 v22 v23 v24 v25 v26 v27 v28=
 zR call k m1 n v0 v1 v2 v3 w4 w5 v6 w7 w8 v9 v10 v11 v12 v13 v14 v15 v16 v17 v18 v19 v20 v21 v22 v23 v24 v25 v26 v27 (PV.int .i64 (IntKind.i64.wrap (v28.toInt+1))):=by rw[qo,aE];kernel_rfl
theorem Cf:zR call k m1 (n+1) v0 v1 v2 v3 w4 w5 v6 w7 w8 v9 v10 v11 v12 v13 v14 v15 v16 v17 v18 v19 v20 v21 v22 v23 v24 v25 v26 v27 v28=
 bif au (v28.toInt) (v27.toInt)then
 bif aj (0) (v28.toInt)&&au (v28.toInt) ((v26.toList.length:Int))then
 bif aj (0) ((nth default v26.toList v28.toInt.toNat).toInt)then
 bif !v22.toBool then
 bif aj (0) (v9.toInt)&&au (v9.toInt) ((w7.length:Int))then
 bif aj (0) ((nth default v26.toList v28.toInt.toNat).toInt)&&au ((nth default v26.toList v28.toInt.toNat).toInt) (((nth default w7 v9.toInt.toNat).toList.length:Int))then
 bif (nth default (nth default w7 v9.toInt.toNat).toList (nth default v26.toList v28.toInt.toNat).toInt.toNat).toBool then
 let c2:=call 39 [.pv (.st 55) (PV.agg [v10,v11,v12,v13,v14,v15,v16,v17,v18,v19,v20,v21]), .pv (.int .i64) (nth default v26.toList v28.toInt.toNat)]
 bif ab .bool c2 then
 bif (aa c2).toBool then
 bif aj (0) (v9.toInt)&&au (v9.toInt) ((w8.length:Int))then
 bif aj (0) ((nth default v26.toList v28.toInt.toNat).toInt)&&au ((nth default v26.toList v28.toInt.toNat).toInt) (((nth default w8 v9.toInt.toNat).toList.length:Int))then
 bif !(Jv (v9.toInt.toNat) (w8.length)&&true)then
 none
 else
 qo call k m1 n v0 v1 v2 v3 w4 w5 v6 w7 (w8.set v9.toInt.toNat (PV.sl ((nth default w8 v9.toInt.toNat).toList.set (nth default v26.toList v28.toInt.toNat).toInt.toNat (PV.bool true)))) v9 v10 v11 v12 v13 v14 v15 v16 v17 v18 v19 v20 v21 v22 v23 v24 v25 v26 v27 v28
 else
 none
 else
 none
 else
 qo call k m1 n v0 v1 v2 v3 w4 w5 v6 w7 w8 v9 v10 v11 v12 v13 v14 v15 v16 v17 v18 v19 v20 v21 v22 v23 v24 v25 v26 v27 v28
 else
 none
 else
 qo call k m1 n v0 v1 v2 v3 w4 w5 v6 w7 w8 v9 v10 v11 v12 v13 v14 v15 v16 v17 v18 v19 v20 v21 v22 v23 v24 v25 v26 v27 v28
 else
 none
 else
 none
 else
 qo call k m1 n v0 v1 v2 v3 w4 w5 v6 w7 w8 v9 v10 v11 v12 v13 v14 v15 v16 v17 v18 v19 v20 v21 v22 v23 v24 v25 v26 v27 v28
 else
 qo call k m1 n v0 v1 v2 v3 w4 w5 v6 w7 w8 v9 v10 v11 v12 v13 v14 v15 v16 v17 v18 v19 v20 v21 v22 v23 v24 v25 v26 v27 v28
 else
 none
 else
 ya call k m1 v0 v1 v2 v3 w4 w5 v6 w7 w8 v23 v24 (PV.int .i64 (IntKind.i64.wrap (v25.toInt+1))):=by kernel_rfl
theorem IS:zS call k n v0 v1 v2 v3 w4 w5 v6 w7 w8 v9 v10 v11 v12 v13 v14 v15 v16 v17 v18 v19 v20 v21 v22 v23 v24 v25=
 zR call k n k v0 v1 v2 v3 w4 w5 v6 w7 w8 v9 v10 v11 v12 v13 v14 v15 v16 v17 v18 v19 v20 v21 v22 v23 v24 v25 v20 (PV.int .i64 (v20.toList.length:Int)) (PV.int .i64 0):=by rw[zS,aE];kernel_rfl
theorem xk:rk call k m1 (n+1) v0 v1 v2 v3 w4 w5 v6 w7 w8 v9 v10 v11 v12 v13 v14 v15 v16 v17 v18 v19 v20 v21 v22 v23 v24 v25 w26 v27 v28=
 bif au (v28.toInt) (v27.toInt)then
 bif aj (0) (v28.toInt)&&au (v28.toInt) ((w26.length:Int))then
 bif aj (0) (v9.toInt)&&au (v9.toInt) ((w8.length:Int))then
 bif aj (0) ((nth default w26 v28.toInt.toNat).toInt)&&au ((nth default w26 v28.toInt.toNat).toInt) (((nth default w8 v9.toInt.toNat).toList.length:Int))then
 bif !(Jv (v9.toInt.toNat) (w8.length)&&true)then
 none
 else
 rk call k m1 n v0 v1 v2 v3 w4 w5 v6 w7 (w8.set v9.toInt.toNat (PV.sl ((nth default w8 v9.toInt.toNat).toList.set (nth default w26 v28.toInt.toNat).toInt.toNat (PV.bool false)))) v9 v10 v11 v12 v13 v14 v15 v16 v17 v18 v19 v20 v21 v22 v23 v24 v25 w26 v27 (PV.int .i64 (IntKind.i64.wrap (v28.toInt+1)))
 else
 none
 else
 none
 else
 none
 else
 zS call k m1 v0 v1 v2 v3 w4 w5 v6 w7 w8 v9 v10 v11 v12 v13 v14 v15 v16 v17 v18 v19 v20 v21 v22 v23 v24 v25:=by kernel_rfl
theorem Cg:zT call k m1 (n+1) v0 v1 v2 v3 w4 w5 v6 w7 w8 v9 v10 v11 v12 v13 v14 v15 v16 v17 v18 v19 v20 v21 v22 v23 v24 v25 v26 v27 v28=
 bif au (v28.toInt) (v27.toInt)then
 bif aj (0) (v28.toInt)&&au (v28.toInt) ((v26.toList.length:Int))then
 bif aj (0) ((nth default v26.toList v28.toInt.toNat).toInt)then
 bif !v22.toBool then
 bif aj (0) (v9.toInt)&&au (v9.toInt) ((w8.length:Int))then
 bif aj (0) ((nth default v26.toList v28.toInt.toNat).toInt)&&au ((nth default v26.toList v28.toInt.toNat).toInt) (((nth default w8 v9.toInt.toNat).toList.length:Int))then
 bif !(Jv (v9.toInt.toNat) (w8.length)&&true)then
 none
 else
 vO call k m1 n v0 v1 v2 v3 w4 w5 v6 w7 (w8.set v9.toInt.toNat (PV.sl ((nth default w8 v9.toInt.toNat).toList.set (nth default v26.toList v28.toInt.toNat).toInt.toNat (PV.bool true)))) v9 v10 v11 v12 v13 v14 v15 v16 v17 v18 v19 v20 v21 v22 v23 v24 v25 v26 v27 v28
 else
 none
 else
 none
 else
 vO call k m1 n v0 v1 v2 v3 w4 w5 v6 w7 w8 v9 v10 v11 v12 v13 v14 v15 v16 v17 v18 v19 v20 v21 v22 v23 v24 v25 v26 v27 v28
 else
 vO call k m1 n v0 v1 v2 v3 w4 w5 v6 w7 w8 v9 v10 v11 v12 v13 v14 v15 v16 v17 v18 v19 v20 v21 v22 v23 v24 v25 v26 v27 v28
 else
 none
 else
 let c1:=call 38 [.pv (.st 55) (PV.agg [v10,v11,v12,v13,v14,v15,v16,v17,v18,v19,v20,v21])]
 bif ab (.sl 3) c1 then
 Ri call k m1 k v0 v1 v2 v3 w4 w5 v6 w7 w8 v9 v10 v11 v12 v13 v14 v15 v16 v17 v18 v19 v20 v21 v22 v23 v24 v25 (aa c1) (PV.int .i64 ((aa c1).toList.length:Int)) (PV.int .i64 0)
 else
 bif fU 3 c1 then
 rk call k m1 k v0 v1 v2 v3 w4 w5 v6 w7 w8 v9 v10 v11 v12 v13 v14 v15 v16 v17 v18 v19 v20 v21 v22 v23 v24 v25 (cB c1) (PV.int .i64 ((cB c1).length:Int)) (PV.int .i64 0)
 else
 none:=by kernel_rfl
theorem IT:qp call k n v0 v1 v2 v3 w4 w5 v6 w7 w8 v9 v10 v11 v12 v13 v14 v15 v16 v17 v18 v19 v20 v21 v22 v23 v24 v25=
 zT call k n k v0 v1 v2 v3 w4 w5 v6 w7 w8 v9 v10 v11 v12 v13 v14 v15 v16 v17 v18 v19 v20 v21 v22 v23 v24 v25 v20 (PV.int .i64 (v20.toList.length:Int)) (PV.int .i64 0):=by rw[qp,aE];kernel_rfl
theorem IU:zU call k n v0 v1 v2 v3 w4 w5 v6 w7 w8 v9 v10 v11 v12 v13 v14 v15 v16 v17 v18 v19 v20 v21 v22 v23 v24=
 bif v10.toStr.data.toList==(ByteArray.mk #[100,101,108,97,121]).data.toList then
 bif au (1) ((v20.toList.length:Int))then
 bif au ((nth default v20.toList 1).toInt) (0)then
 bif au (2) ((v20.toList.length:Int))then
 bif au ((nth default v20.toList 2).toInt) (0)then
 qp call k n v0 v1 v2 v3 w4 w5 v6 w7 w8 v9 v10 v11 v12 v13 v14 v15 v16 v17 v18 v19 v20 v21 (PV.bool (aj (v0.toInt) (v12.toInt))) v22 v23 v24
 else
 qp call k n v0 v1 v2 v3 w4 w5 v6 w7 w8 v9 v10 v11 v12 v13 v14 v15 v16 v17 v18 v19 v20 v21 (PV.bool false) v22 v23 v24
 else
 none
 else
 qp call k n v0 v1 v2 v3 w4 w5 v6 w7 w8 v9 v10 v11 v12 v13 v14 v15 v16 v17 v18 v19 v20 v21 (PV.bool false) v22 v23 v24
 else
 none
 else
 qp call k n v0 v1 v2 v3 w4 w5 v6 w7 w8 v9 v10 v11 v12 v13 v14 v15 v16 v17 v18 v19 v20 v21 (PV.bool false) v22 v23 v24:=by rw[zU,aE];kernel_rfl
theorem zV:uk call k m1 (n+1) v0 v1 v2 v3 w4 w5 v6 w7 w8 v9 v10 v11 v12 v13 v14 v15 v16 v17 v18 v19 v20 v21 v22 v23 v24 w25 v26 v27=
 bif au (v27.toInt) (v26.toInt)then
 bif aj (0) (v27.toInt)&&au (v27.toInt) ((w25.length:Int))then
 bif aj (0) (v9.toInt)&&au (v9.toInt) ((w7.length:Int))then
 bif aj (0) ((nth default w25 v27.toInt.toNat).toInt)&&au ((nth default w25 v27.toInt.toNat).toInt) (((nth default w7 v9.toInt.toNat).toList.length:Int))then
 bif !(Jv (v9.toInt.toNat) (w7.length)&&true)then
 none
 else
 uk call k m1 n v0 v1 v2 v3 w4 w5 v6 (w7.set v9.toInt.toNat (PV.sl ((nth default w7 v9.toInt.toNat).toList.set (nth default w25 v27.toInt.toNat).toInt.toNat (PV.bool true)))) w8 v9 v10 v11 v12 v13 v14 v15 v16 v17 v18 v19 v20 v21 v22 v23 v24 w25 v26 (PV.int .i64 (IntKind.i64.wrap (v27.toInt+1)))
 else
 none
 else
 none
 else
 none
 else
 zU call k m1 v0 v1 v2 v3 w4 w5 v6 w7 w8 v9 v10 v11 v12 v13 v14 v15 v16 v17 v18 v19 v20 v21 v22 v23 v24:=by kernel_rfl
theorem EH:ya call k (n+1) v0 v1 v2 v3 w4 w5 v6 w7 w8 v9 v10 v11=
 bif au (v11.toInt) (v10.toInt)then
 bif aj (0) (v11.toInt)&&au (v11.toInt) ((v9.toList.length:Int))then
 bif aj (0) (v6.toInt)&&(aj (v6.toInt) (v6.toInt)&&(aj (v6.toInt) (140737488355328)&&aj ((Nat.cast 1:Int)*v6.toInt) (140737488355328)))then
 bif aj (0) (v6.toInt)&&(aj (v6.toInt) (v6.toInt)&&(aj (v6.toInt) (140737488355328)&&aj ((Nat.cast 1:Int)*v6.toInt) (140737488355328)))then
 bif aj (0) (v11.toInt)&&au (v11.toInt) ((w7.length:Int))then
 bif aj (0) (v11.toInt)&&au (v11.toInt) ((w8.length:Int))then
 let c0:=call 38 [.pv (.st 55) (PV.agg [(nth default v9.toList v11.toInt.toNat).cell 0,(nth default v9.toList v11.toInt.toNat).cell 1,(nth default v9.toList v11.toInt.toNat).cell 2,(nth default v9.toList v11.toInt.toNat).cell 3,(nth default v9.toList v11.toInt.toNat).cell 4,(nth default v9.toList v11.toInt.toNat).cell 5,(nth default v9.toList v11.toInt.toNat).cell 6,(nth default v9.toList v11.toInt.toNat).cell 7,(nth default v9.toList v11.toInt.toNat).cell 8,(nth default v9.toList v11.toInt.toNat).cell 9,(nth default v9.toList v11.toInt.toNat).cell 10,(nth default v9.toList v11.toInt.toNat).cell 11])]
 bif ab (.sl 3) c0 then
 TF call k n k v0 v1 v2 v3 w4 w5 v6 (w7.set v11.toInt.toNat (PV.sl (List.replicate v6.toInt.toNat (PV.bool false)))) (w8.set v11.toInt.toNat (PV.sl (List.replicate v6.toInt.toNat (PV.bool false)))) v11 ((nth default v9.toList v11.toInt.toNat).cell 0) ((nth default v9.toList v11.toInt.toNat).cell 1) ((nth default v9.toList v11.toInt.toNat).cell 2) ((nth default v9.toList v11.toInt.toNat).cell 3) ((nth default v9.toList v11.toInt.toNat).cell 4) ((nth default v9.toList v11.toInt.toNat).cell 5) ((nth default v9.toList v11.toInt.toNat).cell 6) ((nth default v9.toList v11.toInt.toNat).cell 7) ((nth default v9.toList v11.toInt.toNat).cell 8) ((nth default v9.toList v11.toInt.toNat).cell 9) ((nth default v9.toList v11.toInt.toNat).cell 10) ((nth default v9.toList v11.toInt.toNat).cell 11) v9 v10 v11 (aa c0) (PV.int .i64 ((aa c0).toList.length:Int)) (PV.int .i64 0)
 else
 bif fU 3 c0 then
 uk call k n k v0 v1 v2 v3 w4 w5 v6 (w7.set v11.toInt.toNat (PV.sl (List.replicate v6.toInt.toNat (PV.bool false)))) (w8.set v11.toInt.toNat (PV.sl (List.replicate v6.toInt.toNat (PV.bool false)))) v11 ((nth default v9.toList v11.toInt.toNat).cell 0) ((nth default v9.toList v11.toInt.toNat).cell 1) ((nth default v9.toList v11.toInt.toNat).cell 2) ((nth default v9.toList v11.toInt.toNat).cell 3) ((nth default v9.toList v11.toInt.toNat).cell 4) ((nth default v9.toList v11.toInt.toNat).cell 5) ((nth default v9.toList v11.toInt.toNat).cell 6) ((nth default v9.toList v11.toInt.toNat).cell 7) ((nth default v9.toList v11.toInt.toNat).cell 8) ((nth default v9.toList v11.toInt.toNat).cell 9) ((nth default v9.toList v11.toInt.toNat).cell 10) ((nth default v9.toList v11.toInt.toNat).cell 11) v9 v10 v11 (cB c0) (PV.int .i64 ((cB c0).length:Int)) (PV.int .i64 0)
 else
 none
 else
 none
 else
 none
 else
 none
 else
 none
 else
 none
 else
 some ([.pv (.st 62) (PV.agg [PV.sl w7,PV.sl w8])],[]):=by kernel_rfl
theorem R20:aW Try.prog H0 call k 20 [.pv (.st 25) x0, .pv (.int .i64) x1]=
 bif aj (((x0.cell 1).toList.length:Int)) (((x0.cell 1).toList.length:Int))&&(aj (((x0.cell 1).toList.length:Int)) (140737488355328)&&aj ((Nat.cast 24:Int)* ((x0.cell 1).toList.length:Int)) (140737488355328))then
 bif aj (((x0.cell 1).toList.length:Int)) (((x0.cell 1).toList.length:Int))&&(aj (((x0.cell 1).toList.length:Int)) (140737488355328)&&aj ((Nat.cast 24:Int)* ((x0.cell 1).toList.length:Int)) (140737488355328))then
 ya call k k x1 (x0.cell 0) (x0.cell 1) (x0.cell 2) ([]) ([]) (PV.int .i64 ((x0.cell 1).toList.length:Int)) (List.replicate (((x0.cell 1).toList.length:Int)).toNat (PV.sl [])) (List.replicate (((x0.cell 1).toList.length:Int)).toNat (PV.sl [])) (x0.cell 1) (PV.int .i64 ((x0.cell 1).toList.length:Int)) (PV.int .i64 0)
 else
 none
 else
 none:=by rw[aC];kernel_rfl
end Go.V
namespace Go.V
open Go.Proofs
variable (call:aw) (k m1 m2 m3 n:Nat) (x0 x1 x2 x3 x4 x5 x6 x7 x8 x9:PV) (v0:PV) (w0:List PV) (u0:Nat) (v1:PV) (w1:List PV) (u1:Nat) (v2:PV) (w2:List PV) (u2:Nat) (v3:PV) (w3:List PV) (u3:Nat) (v4:PV) (w4:List PV) (u4:Nat) (v5:PV) (w5:List PV) (u5:Nat) (v6:PV) (w6:List PV) (u6:Nat) (v7:PV) (w7:List PV) (u7:Nat) (v8:PV) (w8:List PV) (u8:Nat) (v9:PV) (w9:List PV) (u9:Nat) (v10:PV) (w10:List PV) (u10:Nat) (v11:PV) (w11:List PV) (u11:Nat) (v12:PV) (w12:List PV) (u12:Nat) (v13:PV) (w13:List PV) (u13:Nat) (v14:PV) (w14:List PV) (u14:Nat) (v15:PV) (w15:List PV) (u15:Nat) (v16:PV) (w16:List PV) (u16:Nat) (v17:PV) (w17:List PV) (u17:Nat) (v18:PV) (w18:List PV) (u18:Nat) (v19:PV) (w19:List PV) (u19:Nat) (v20:PV) (w20:List PV) (u20:Nat) (v21:PV) (w21:List PV) (u21:Nat) (v22:PV) (w22:List PV) (u22:Nat) (v23:PV) (w23:List PV) (u23:Nat) (v24:PV) (w24:List PV) (u24:Nat) (v25:PV) (w25:List PV) (u25:Nat) (v26:PV) (w26:List PV) (u26:Nat) (v27:PV) (w27:List PV) (u27:Nat) (v28:PV) (w28:List PV) (u28:Nat) (v29:PV) (w29:List PV) (u29:Nat) (v30:PV) (w30:List PV) (u30:Nat) (v31:PV) (w31:List PV) (u31:Nat) (v32:PV) (w32:List PV) (u32:Nat) (v33:PV) (w33:List PV) (u33:Nat) (v34:PV) (w34:List PV) (u34:Nat) (v35:PV) (w35:List PV) (u35:Nat) (v36:PV) (w36:List PV) (u36:Nat) (v37:PV) (w37:List PV) (u37:Nat) (v38:PV) (w38:List PV) (u38:Nat) (v39:PV) (w39:List PV) (u39:Nat) (v40:PV) (w40:List PV) (u40:Nat) (v41:PV) (w41:List PV) (u41:Nat) (v42:PV) (w42:List PV) (u42:Nat) (v43:PV) (w43:List PV) (u43:Nat) (v44:PV) (w44:List PV) (u44:Nat) (v45:PV) (w45:List PV) (u45:Nat) (v46:PV) (w46:List PV) (u46:Nat) (v47:PV) (w47:List PV) (u47:Nat) (v48:PV) (w48:List PV) (u48:Nat) (v49:PV) (w49:List PV) (u49:Nat) (v50:PV) (w50:List PV) (u50:Nat) (v51:PV) (w51:List PV) (u51:Nat) (v52:PV) (w52:List PV) (u52:Nat) (v53:PV) (w53:List PV) (u53:Nat) (v54:PV) (w54:List PV) (u54:Nat) (v55:PV) (w55:List PV) (u55:Nat) (v56:PV) (w56:List PV) (u56:Nat) (v57:PV) (w57:List PV) (u57:Nat) (v58:PV) (w58:List PV) (u58:Nat) (v59:PV) (w59:List PV) (u59:Nat)
noncomputable def zW:R:=jn call k 14 17 [.b,.b,.b,.b,.b,.a,.b,.aD,.lp m1,.b,.b,.a,.aD,.b,.b,.aD,.lp n,.b,.b,.a,.aD,.b,.a,.b,.x,.a] (dd::dd:: .o (.box 25 [.pv (.int .i64) v0, .pv (.sl 55) v1, .pv (.sl 3) v2]):: .o (.box 36 [.pv (.sl 47) v3, .pv (.sl 57) v4, .pv (.int .i64) v5, .pv .bool v6])::dd:: .o (.arr 3 w7):: .o (.arr 3 w8)::dd::oB v9::oI v10:: .o (.box 47 [.pv (.sl 3) v11, .pv .bool v12])::oI v13::oI v14::ds 30 (AV.ptr 3 [] 0::oL 47 v15::oI v16::oI v17::ds 4 (AV.ptr 10 [] 0::oL 3 v18::oI v19::oI v20::ds 12 (oB v21::ds 176 []))))
noncomputable def zX:R:=jn call k 14 19 [.b,.b,.b,.b,.b,.a,.b,.aD,.lp m1,.b,.b,.a,.aD,.b,.b,.aD,.lp n,.b,.b,.a,.aD,.b,.b,.b] (dd::dd:: .o (.box 25 [.pv (.int .i64) v0, .pv (.sl 55) v1, .pv (.sl 3) v2]):: .o (.box 36 [.pv (.sl 47) v3, .pv (.sl 57) v4, .pv (.int .i64) v5, .pv .bool v6])::dd:: .o (.arr 3 w7):: .o (.arr 3 w8)::dd::oB v9::oI v10:: .o (.box 47 [.pv (.sl 3) v11, .pv .bool v12])::oI v13::oI v14::ds 30 (AV.ptr 3 [] 0::oL 47 v15::oI v16::oI v17::ds 4 (AV.ptr 10 [] 0::oL 3 v18::oI v19::oI v20::ds 189 [])))
noncomputable def zY:R:=lq call k 14 n [.b,.b,.b,.b,.b,.a,.b,.aD,.lp m1,.b,.b,.a,.aD,.b,.b,.aD] (dd::dd:: .o (.box 25 [.pv (.int .i64) v0, .pv (.sl 55) v1, .pv (.sl 3) v2]):: .o (.box 36 [.pv (.sl 47) v3, .pv (.sl 57) v4, .pv (.int .i64) v5, .pv .bool v6])::dd:: .o (.arr 3 w7):: .o (.arr 3 w8)::dd::oB v9::oI v10:: .o (.box 47 [.pv (.sl 3) v11, .pv .bool v12])::ds 32 (AV.ptr 3 [] 0::oL 47 v13::oI v14::oI v15::ds 4 (AV.ptr 10 [] 0::oL 3 v16::oI v17::oI v18::ds 189 [])))
noncomputable def zZ:R:=jn call k 14 26 [.b,.b,.b,.b,.b,.b,.a,.b,.aD,.lp n,.b,.b,.a,.aD,.b,.b,.x,.a] (dd::dd:: .o (.box 25 [.pv (.int .i64) v0, .pv (.sl 55) v1, .pv (.sl 3) v2]):: .o (.box 36 [.pv (.sl 47) v3, .pv (.sl 57) v4, .pv (.int .i64) v5, .pv .bool v6])::dd:: .o (.arr 3 w7):: .o (.arr 3 w8)::dd::oB v9::ds 77 (AV.ptr 3 [] 1::oL 57 v10::oI v11::oI v12::ds 13 (oB v13::ds 140 [])))
noncomputable def LN:R:=jn call k 14 31 [.b,.b,.b,.b,.b,.b,.b,.b,.b,.a,.b,.x,.a] (dd::dd:: .o (.box 25 [.pv (.int .i64) v0, .pv (.sl 55) v1, .pv (.sl 3) v2]):: .o (.box 36 [.pv (.sl 47) v3, .pv (.sl 57) v4, .pv (.int .i64) v5, .pv .bool v6])::dd:: .o (.arr 3 w7):: .o (.arr 3 w8)::ds 8 (.o (.box 62 [.pv (.sl 45) v9, .pv (.sl 45) v10])::oL 57 v11::ds 97 (oL 57 v12::ds 8 (oB v13::ds 120 []))))
noncomputable def vP:R:=jn call k 14 50 [.b,.b,.b,.b,.b,.b,.b,.b,.b,.b,.b,.a,.b,.aD,.lp m1,.b,.b,.a,.aD,.b,.b,.b,.aD,.lp n,.b,.b,.a,.aD,.b,.b,.b,.b,.x,.a] (dd::dd:: .o (.box 25 [.pv (.int .i64) v0, .pv (.sl 55) v1, .pv (.sl 3) v2]):: .o (.box 36 [.pv (.sl 47) v3, .pv (.sl 57) v4, .pv (.int .i64) v5, .pv .bool v6])::dd:: .o (.arr 3 w7):: .o (.arr 3 w8)::ds 8 (.o (.box 62 [.pv (.sl 45) v9, .pv (.sl 45) v10])::dd::dd::oI v11::ds 123 (oI v12::oI v13::ds 9 (oI v14::oI v15::ds 86 ([oB v16,dd,dd])))))
noncomputable def lN:R:=jn call k 14 51 [.b,.b,.b,.b,.b,.b,.b,.b,.b,.b,.b,.a,.b,.aD,.lp m1,.b,.b,.a,.aD,.b,.b,.b,.aD,.lp n,.b,.b,.b] (dd::dd:: .o (.box 25 [.pv (.int .i64) v0, .pv (.sl 55) v1, .pv (.sl 3) v2]):: .o (.box 36 [.pv (.sl 47) v3, .pv (.sl 57) v4, .pv (.int .i64) v5, .pv .bool v6])::dd:: .o (.arr 3 w7):: .o (.arr 3 w8)::ds 8 (.o (.box 62 [.pv (.sl 45) v9, .pv (.sl 45) v10])::dd::dd::oI v11::ds 123 (oI v12::oI v13::ds 9 (oI v14::oI v15::ds 89 []))))
noncomputable def z6:R:=jn call k 14 49 [.b,.b,.b,.b,.b,.b,.b,.b,.b,.b,.b,.a,.b,.aD,.lp m1,.b,.b,.a,.aD,.b,.b,.b,.aD,.lp n,.b,.b,.a,.aD,.b,.b,.b,.a] (dd::dd:: .o (.box 25 [.pv (.int .i64) v0, .pv (.sl 55) v1, .pv (.sl 3) v2]):: .o (.box 36 [.pv (.sl 47) v3, .pv (.sl 57) v4, .pv (.int .i64) v5, .pv .bool v6])::dd:: .o (.arr 3 w7):: .o (.arr 3 w8)::ds 8 (.o (.box 62 [.pv (.sl 45) v9, .pv (.sl 45) v10])::dd::dd::oI v11::oI v12::oB v13::ds 121 (oI v14::oI v15::ds 9 (oI v16::oI v17::ds 89 []))))
noncomputable def fx:R:=jn call k 14 47 [.b,.b,.b,.b,.b,.b,.b,.b,.b,.b,.b,.a,.b,.aD,.lp m1,.b,.b,.a,.aD,.b,.b,.b,.aD,.lp n,.b,.b,.a,.aD,.b,.b,.a,.a] (dd::dd:: .o (.box 25 [.pv (.int .i64) v0, .pv (.sl 55) v1, .pv (.sl 3) v2]):: .o (.box 36 [.pv (.sl 47) v3, .pv (.sl 57) v4, .pv (.int .i64) v5, .pv .bool v6])::dd:: .o (.arr 3 w7):: .o (.arr 3 w8)::ds 8 (.o (.box 62 [.pv (.sl 45) v9, .pv (.sl 45) v10])::dd::dd::oI v11::oI v12::oB v13::ds 121 (oI v14::oI v15::ds 9 (oI v16::oI v17::ds 89 []))))
noncomputable def vQ:R:=lq call k 14 n [.b,.b,.b,.b,.b,.b,.b,.b,.b,.b,.b,.a,.b,.aD,.lp m1,.b,.b,.a,.aD,.b,.b,.b,.aD] (dd::dd:: .o (.box 25 [.pv (.int .i64) v0, .pv (.sl 55) v1, .pv (.sl 3) v2]):: .o (.box 36 [.pv (.sl 47) v3, .pv (.sl 57) v4, .pv (.int .i64) v5, .pv .bool v6])::dd:: .o (.arr 3 w7):: .o (.arr 3 w8)::ds 8 (.o (.box 62 [.pv (.sl 45) v9, .pv (.sl 45) v10])::dd::dd::oI v11::ds 123 (oI v12::oI v13::ds 9 (oI v14::oI v15::ds 89 []))))
noncomputable def vR:R:=lq call k 14 n [.b,.b,.b,.b,.b,.b,.b,.b,.b,.b,.b,.a,.b,.aD] (dd::dd:: .o (.box 25 [.pv (.int .i64) v0, .pv (.sl 55) v1, .pv (.sl 3) v2]):: .o (.box 36 [.pv (.sl 47) v3, .pv (.sl 57) v4, .pv (.int .i64) v5, .pv .bool v6])::dd:: .o (.arr 3 w7):: .o (.arr 3 w8)::ds 8 (.o (.box 62 [.pv (.sl 45) v9, .pv (.sl 45) v10])::ds 126 (oI v11::oI v12::ds 100 [])))
noncomputable def z7:R:=jn call k 14 38 [.b,.b,.b,.b,.b,.b,.b,.b,.b,.b,.b,.a,.a] (dd::dd:: .o (.box 25 [.pv (.int .i64) v0, .pv (.sl 55) v1, .pv (.sl 3) v2]):: .o (.box 36 [.pv (.sl 47) v3, .pv (.sl 57) v4, .pv (.int .i64) v5, .pv .bool v6])::dd:: .o (.arr 3 w7):: .o (.arr 3 w8)::ds 8 (.o (.box 62 [.pv (.sl 45) v9, .pv (.sl 45) v10])::ds 228 []))
noncomputable def Rj:R:=lq call k 14 n [.b,.b,.b,.b,.b,.b,.b,.b,.b,.b,.a,.b,.aD] (dd::dd:: .o (.box 25 [.pv (.int .i64) v0, .pv (.sl 55) v1, .pv (.sl 3) v2]):: .o (.box 36 [.pv (.sl 47) v3, .pv (.sl 57) v4, .pv (.int .i64) v5, .pv .bool v6])::dd:: .o (.arr 3 w7):: .o (.arr 3 w8)::ds 8 (.o (.box 62 [.pv (.sl 45) v9, .pv (.sl 45) v10])::oL 57 v11::ds 97 (oL 57 v12::ds 10 (oI v13::oI v14::ds 117 []))))
noncomputable def rm:R:=jn call k 14 31 [.b,.b,.b,.b,.b,.b,.b,.b,.b,.a,.b,.x,.a] (dd::dd:: .o (.box 25 [.pv (.int .i64) v0, .pv (.sl 55) v1, .pv (.sl 3) v2]):: .o (.box 36 [.pv (.sl 47) v3, .pv (.sl 57) v4, .pv (.int .i64) v5, .pv .bool v6])::dd:: .o (.arr 3 w7):: .o (.arr 3 w8)::ds 8 (.o (.box 62 [.pv (.sl 45) v9, .pv (.sl 45) v10]):: .o (.arr 57 w11)::ds 97 (AV.al 16 []::ds 8 (oB v12::ds 120 []))))
noncomputable def rp:R:=lq call k 14 n [.b,.b,.b,.b,.b,.b,.b,.b,.b,.b,.a,.b,.aD] (dd::dd:: .o (.box 25 [.pv (.int .i64) v0, .pv (.sl 55) v1, .pv (.sl 3) v2]):: .o (.box 36 [.pv (.sl 47) v3, .pv (.sl 57) v4, .pv (.int .i64) v5, .pv .bool v6])::dd:: .o (.arr 3 w7):: .o (.arr 3 w8)::ds 8 (.o (.box 62 [.pv (.sl 45) v9, .pv (.sl 45) v10]):: .o (.arr 57 w11)::ds 97 (AV.al 16 []::ds 10 (oI v12::oI v13::ds 117 []))))
noncomputable def vS:R:=lq call k 14 n [.b,.b,.b,.b,.b,.b,.a,.b,.aD] (dd::dd:: .o (.box 25 [.pv (.int .i64) v0, .pv (.sl 55) v1, .pv (.sl 3) v2]):: .o (.box 36 [.pv (.sl 47) v3, .pv (.sl 57) v4, .pv (.int .i64) v5, .pv .bool v6])::dd:: .o (.arr 3 w7):: .o (.arr 3 w8)::dd::oB v9::ds 77 (AV.ptr 3 [] 1::oL 57 v10::oI v11::oI v12::ds 154 []))
noncomputable def sB:R:=lq call k 14 n [.b,.b,.b,.b,.b,.a,.b,.aD] (dd::dd:: .o (.box 25 [.pv (.int .i64) v0, .pv (.sl 55) v1, .pv (.sl 3) v2]):: .o (.box 36 [.pv (.sl 47) v3, .pv (.sl 57) v4, .pv (.int .i64) v5, .pv .bool v6])::dd:: .o (.arr 3 w7):: .o (.arr 3 w8)::dd::oB v9::ds 34 (AV.ptr 3 [] 0::oL 47 v10::oI v11::oI v12::ds 197 []))
noncomputable def GG:R:=lq call k 14 n [.b,.b,.b,.a,.b,.aD] (dd::dd:: .o (.box 25 [.pv (.int .i64) v0, .pv (.sl 55) v1, .pv (.sl 3) v2]):: .o (.box 36 [.pv (.sl 47) v3, .pv (.sl 57) v4, .pv (.int .i64) v5, .pv .bool v6])::dd:: .o (.arr 3 w7):: .o (.arr 3 w8)::ds 28 (oI v9::oI v10::ds 207 []))
theorem yb:zW call k m1 n v0 v1 v2 v3 v4 v5 v6 w7 w8 v9 v10 v11 v12 v13 v14 v15 v16 v17 v18 v19 v20 v21=
 some ([.pv (.int .i64) (PV.int .i64 2)],[]):=by rw[zW,aE];kernel_rfl
theorem IV:zX call k m1 n v0 v1 v2 v3 v4 v5 v6 w7 w8 v9 v10 v11 v12 v13 v14 v15 v16 v17 v18 v19 v20=
 bif aj (0) (v14.toInt)&&au (v14.toInt) ((w7.length:Int))then
 bif aj (0) (v14.toInt)&&au (v14.toInt) ((w8.length:Int))then
 zY call k m1 n v0 v1 v2 v3 v4 v5 v6 (w7.set v14.toInt.toNat v10) (w8.set v14.toInt.toNat v13) v9 v10 v11 v12 v15 v16 v17 v18 v19 (PV.int .i64 (IntKind.i64.wrap (v20.toInt+1)))
 else
 none
 else
 none:=by rw[zX,aE];kernel_rfl
theorem Ch:zY call k m1 (n+1) v0 v1 v2 v3 v4 v5 v6 w7 w8 v9 v10 v11 v12 v13 v14 v15 v16 v17 v18=
 bif au (v18.toInt) (v17.toInt)then
 bif aj (0) (v18.toInt)&&au (v18.toInt) ((v16.toList.length:Int))then
 bif au ((nth default v16.toList v18.toInt.toNat).toInt) (0)then
 zW call k m1 n v0 v1 v2 v3 v4 v5 v6 w7 w8 v9 v10 v11 v12 v18 (nth default v16.toList v18.toInt.toNat) v13 v14 v15 v16 v17 v18 (PV.bool true)
 else
 bif aj ((v1.toList.length:Int)) ((nth default v16.toList v18.toInt.toNat).toInt)then
 zW call k m1 n v0 v1 v2 v3 v4 v5 v6 w7 w8 v9 v10 v11 v12 v18 (nth default v16.toList v18.toInt.toNat) v13 v14 v15 v16 v17 v18 (PV.bool true)
 else
 bif v9.toBool then
 zX call k m1 n v0 v1 v2 v3 v4 v5 v6 w7 w8 (PV.bool true) v10 v11 v12 v18 (nth default v16.toList v18.toInt.toNat) v13 v14 v15 v16 v17 v18
 else
 bif aj (0) ((nth default v16.toList v18.toInt.toNat).toInt)&&au ((nth default v16.toList v18.toInt.toNat).toInt) ((w7.length:Int))then
 zX call k m1 n v0 v1 v2 v3 v4 v5 v6 w7 w8 (PV.bool (aj (0) ((nth default w7 (nth default v16.toList v18.toInt.toNat).toInt.toNat).toInt))) v10 v11 v12 v18 (nth default v16.toList v18.toInt.toNat) v13 v14 v15 v16 v17 v18
 else
 none
 else
 none
 else
 sB call k m1 v0 v1 v2 v3 v4 v5 v6 w7 w8 v9 v13 v14 (PV.int .i64 (IntKind.i64.wrap (v15.toInt+1))):=by kernel_rfl
theorem IW:zZ call k n v0 v1 v2 v3 v4 v5 v6 w7 w8 v9 v10 v11 v12 v13=
 some ([.pv (.int .i64) (PV.int .i64 2)],[]):=by rw[zZ,aE];kernel_rfl
theorem IX:vP call k m1 n v0 v1 v2 v3 v4 v5 v6 w7 w8 v9 v10 v11 v12 v13 v14 v15 v16=
 some ([.pv (.int .i64) (PV.int .i64 150)],[]):=by rw[vP,aE];kernel_rfl
theorem IY:lN call k m1 n v0 v1 v2 v3 v4 v5 v6 w7 w8 v9 v10 v11 v12 v13 v14 v15=
 vQ call k m1 n v0 v1 v2 v3 v4 v5 v6 w7 w8 v9 v10 v11 v12 v13 v14 (PV.int .i64 (IntKind.i64.wrap (v15.toInt+1))):=by rw[lN,aE];kernel_rfl
theorem IZ:z6 call k m1 n v0 v1 v2 v3 v4 v5 v6 w7 w8 v9 v10 v11 v12 v13 v14 v15 v16 v17=
 bif aj (0) (v11.toInt)&&au (v11.toInt) ((v10.toList.length:Int))then
 bif aj (0) (v12.toInt)&&au (v12.toInt) (((nth default v10.toList v11.toInt.toNat).toList.length:Int))then
 bif (nth default (nth default v10.toList v11.toInt.toNat).toList v12.toInt.toNat).toBool then
 bif (nth default (nth default v10.toList v11.toInt.toNat).toList v12.toInt.toNat).toBool then
 bif !v13.toBool then
 bif aj (0) (v12.toInt)&&au (v12.toInt) ((w7.length:Int))then
 bif aj (0) (v11.toInt)&&au (v11.toInt) ((w7.length:Int))then
 bif ak ((nth default w7 v12.toInt.toNat).toInt) ((nth default w7 v11.toInt.toNat).toInt)then
 bif aj (0) (v11.toInt)&&au (v11.toInt) ((w7.length:Int))then
 bif aj (0) ((nth default w7 v11.toInt.toNat).toInt)&&au ((nth default w7 v11.toInt.toNat).toInt) ((v3.toList.length:Int))then
 bif ak ((nth default w7 v12.toInt.toNat).toInt) ((nth default w7 v11.toInt.toNat).toInt)then
 bif !v13.toBool then
 bif !((nth default v3.toList (nth default w7 v11.toInt.toNat).toInt.toNat).cell 1).toBool then
 vP call k m1 n v0 v1 v2 v3 v4 v5 v6 w7 w8 v9 v10 v11 v14 v15 v16 v17 (PV.bool true)
 else
 lN call k m1 n v0 v1 v2 v3 v4 v5 v6 w7 w8 v9 v10 v11 v14 v15 v16 v17
 else
 lN call k m1 n v0 v1 v2 v3 v4 v5 v6 w7 w8 v9 v10 v11 v14 v15 v16 v17
 else
 bif !v13.toBool then
 vP call k m1 n v0 v1 v2 v3 v4 v5 v6 w7 w8 v9 v10 v11 v14 v15 v16 v17 (PV.bool true)
 else
 lN call k m1 n v0 v1 v2 v3 v4 v5 v6 w7 w8 v9 v10 v11 v14 v15 v16 v17
 else
 none
 else
 none
 else
 bif ak ((nth default w7 v12.toInt.toNat).toInt) ((nth default w7 v11.toInt.toNat).toInt)then
 none
 else
 bif !v13.toBool then
 vP call k m1 n v0 v1 v2 v3 v4 v5 v6 w7 w8 v9 v10 v11 v14 v15 v16 v17 (PV.bool true)
 else
 lN call k m1 n v0 v1 v2 v3 v4 v5 v6 w7 w8 v9 v10 v11 v14 v15 v16 v17
 else
 none
 else
 none
 else
 bif !v13.toBool then
 none
 else
 lN call k m1 n v0 v1 v2 v3 v4 v5 v6 w7 w8 v9 v10 v11 v14 v15 v16 v17
 else
 lN call k m1 n v0 v1 v2 v3 v4 v5 v6 w7 w8 v9 v10 v11 v14 v15 v16 v17
 else
 bif (nth default (nth default v10.toList v11.toInt.toNat).toList v12.toInt.toNat).toBool then
 none
 else
 lN call k m1 n v0 v1 v2 v3 v4 v5 v6 w7 w8 v9 v10 v11 v14 v15 v16 v17
 else
 none
 else
 none:=by rw[z6,aE];kernel_rfl
theorem I0:fx call k m1 n v0 v1 v2 v3 v4 v5 v6 w7 w8 v9 v10 v11 v12 v13 v14 v15 v16 v17=
 bif aj (0) (v11.toInt)&&au (v11.toInt) ((v9.toList.length:Int))then
 bif aj (0) (v12.toInt)&&au (v12.toInt) (((nth default v9.toList v11.toInt.toNat).toList.length:Int))then
 bif (nth default (nth default v9.toList v11.toInt.toNat).toList v12.toInt.toNat).toBool then
 bif !v13.toBool then
 some ([.pv (.int .i64) (PV.int .i64 150)],[])
 else
 z6 call k m1 n v0 v1 v2 v3 v4 v5 v6 w7 w8 v9 v10 v11 v12 v13 v14 v15 v16 v17
 else
 z6 call k m1 n v0 v1 v2 v3 v4 v5 v6 w7 w8 v9 v10 v11 v12 v13 v14 v15 v16 v17
 else
 none
 else
 none:=by rw[fx,aE];kernel_rfl
theorem Ci:vQ call k m1 (n+1) v0 v1 v2 v3 v4 v5 v6 w7 w8 v9 v10 v11 v12 v13 v14 v15=
 bif au (v15.toInt) (v14.toInt)then
 bif aj (0) (v15.toInt)&&au (v15.toInt) ((w7.length:Int))then
 bif aj (0) ((nth default w7 v15.toInt.toNat).toInt)then
 bif aj (0) (v15.toInt)&&au (v15.toInt) ((w7.length:Int))then
 bif aj (0) (v11.toInt)&&au (v11.toInt) ((w7.length:Int))then
 bif au ((nth default w7 v15.toInt.toNat).toInt) ((nth default w7 v11.toInt.toNat).toInt)then
 bif au ((nth default w7 v15.toInt.toNat).toInt) ((nth default w7 v11.toInt.toNat).toInt)then
 bif aj (0) ((nth default w7 v15.toInt.toNat).toInt)then
 fx call k m1 n v0 v1 v2 v3 v4 v5 v6 w7 w8 v9 v10 v11 v15 (PV.bool true) v12 v13 v14 v15
 else
 fx call k m1 n v0 v1 v2 v3 v4 v5 v6 w7 w8 v9 v10 v11 v15 (PV.bool false) v12 v13 v14 v15
 else
 none
 else
 bif aj (0) (v15.toInt)&&au (v15.toInt) ((w7.length:Int))then
 bif aj (0) (v11.toInt)&&au (v11.toInt) ((w7.length:Int))then
 bif ak ((nth default w7 v15.toInt.toNat).toInt) ((nth default w7 v11.toInt.toNat).toInt)then
 bif aj (0) (v15.toInt)&&au (v15.toInt) ((w8.length:Int))then
 bif aj (0) (v11.toInt)&&au (v11.toInt) ((w8.length:Int))then
 bif ak ((nth default w7 v15.toInt.toNat).toInt) ((nth default w7 v11.toInt.toNat).toInt)then
 bif au ((nth default w7 v15.toInt.toNat).toInt) ((nth default w7 v11.toInt.toNat).toInt)then
 bif aj (0) ((nth default w7 v15.toInt.toNat).toInt)then
 fx call k m1 n v0 v1 v2 v3 v4 v5 v6 w7 w8 v9 v10 v11 v15 (PV.bool true) v12 v13 v14 v15
 else
 fx call k m1 n v0 v1 v2 v3 v4 v5 v6 w7 w8 v9 v10 v11 v15 (PV.bool false) v12 v13 v14 v15
 else
 bif aj (0) ((nth default w7 v15.toInt.toNat).toInt)then
 fx call k m1 n v0 v1 v2 v3 v4 v5 v6 w7 w8 v9 v10 v11 v15 (PV.bool (au ((nth default w8 v15.toInt.toNat).toInt) ((nth default w8 v11.toInt.toNat).toInt))) v12 v13 v14 v15
 else
 fx call k m1 n v0 v1 v2 v3 v4 v5 v6 w7 w8 v9 v10 v11 v15 (PV.bool false) v12 v13 v14 v15
 else
 bif au ((nth default w7 v15.toInt.toNat).toInt) ((nth default w7 v11.toInt.toNat).toInt)then
 bif aj (0) ((nth default w7 v15.toInt.toNat).toInt)then
 fx call k m1 n v0 v1 v2 v3 v4 v5 v6 w7 w8 v9 v10 v11 v15 (PV.bool true) v12 v13 v14 v15
 else
 fx call k m1 n v0 v1 v2 v3 v4 v5 v6 w7 w8 v9 v10 v11 v15 (PV.bool false) v12 v13 v14 v15
 else
 bif aj (0) ((nth default w7 v15.toInt.toNat).toInt)then
 fx call k m1 n v0 v1 v2 v3 v4 v5 v6 w7 w8 v9 v10 v11 v15 (PV.bool false) v12 v13 v14 v15
 else
 fx call k m1 n v0 v1 v2 v3 v4 v5 v6 w7 w8 v9 v10 v11 v15 (PV.bool false) v12 v13 v14 v15
 else
 none
 else
 none
 else
 bif ak ((nth default w7 v15.toInt.toNat).toInt) ((nth default w7 v11.toInt.toNat).toInt)then
 none
 else
 bif au ((nth default w7 v15.toInt.toNat).toInt) ((nth default w7 v11.toInt.toNat).toInt)then
 bif aj (0) ((nth default w7 v15.toInt.toNat).toInt)then
 fx call k m1 n v0 v1 v2 v3 v4 v5 v6 w7 w8 v9 v10 v11 v15 (PV.bool true) v12 v13 v14 v15
 else
 fx call k m1 n v0 v1 v2 v3 v4 v5 v6 w7 w8 v9 v10 v11 v15 (PV.bool false) v12 v13 v14 v15
 else
 bif aj (0) ((nth default w7 v15.toInt.toNat).toInt)then
 fx call k m1 n v0 v1 v2 v3 v4 v5 v6 w7 w8 v9 v10 v11 v15 (PV.bool false) v12 v13 v14 v15
 else
 fx call k m1 n v0 v1 v2 v3 v4 v5 v6 w7 w8 v9 v10 v11 v15 (PV.bool false) v12 v13 v14 v15
 else
 none
 else
 none
 else
 none
 else
 none
 else
 bif aj (0) ((nth default w7 v15.toInt.toNat).toInt)then
 none
 else
 fx call k m1 n v0 v1 v2 v3 v4 v5 v6 w7 w8 v9 v10 v11 v15 (PV.bool false) v12 v13 v14 v15
 else
 none
 else
 vR call k m1 v0 v1 v2 v3 v4 v5 v6 w7 w8 v9 v10 v12 (PV.int .i64 (IntKind.i64.wrap (v13.toInt+1))):=by kernel_rfl
theorem Cj:vR call k (n+1) v0 v1 v2 v3 v4 v5 v6 w7 w8 v9 v10 v11 v12=
 bif au (v12.toInt) (v11.toInt)then
 bif aj (0) (v12.toInt)&&au (v12.toInt) ((w7.length:Int))then
 bif au ((nth default w7 v12.toInt.toNat).toInt) (0)then
 some ([.pv (.int .i64) (PV.int .i64 150)],[])
 else
 vQ call k n k v0 v1 v2 v3 v4 v5 v6 w7 w8 v9 v10 v12 v11 v12 (PV.int .i64 (v1.toList.length:Int)) (PV.int .i64 0)
 else
 none
 else
 some ([.pv (.int .i64) (PV.int .i64 0)],[]):=by kernel_rfl
theorem I1:z7 call k v0 v1 v2 v3 v4 v5 v6 w7 w8 v9 v10=
 vR call k k v0 v1 v2 v3 v4 v5 v6 w7 w8 v9 v10 (PV.int .i64 (v1.toList.length:Int)) (PV.int .i64 0):=by rw[z7,aE];kernel_rfl
theorem tu:rm call k v0 v1 v2 v3 v4 v5 v6 w7 w8 v9 v10 w11 v12=
 some ([.pv (.int .i64) (PV.int .i64 150)],[]):=by rw[rm,aE];kernel_rfl
theorem xl:rp call k (n+1) v0 v1 v2 v3 v4 v5 v6 w7 w8 v9 v10 w11 v12 v13=
 bif au (v13.toInt) (v12.toInt)then
 bif aj (0) (v13.toInt)&&au (v13.toInt) ((w11.length:Int))then
 bif aj (0) (v13.toInt)&&au (v13.toInt) ((v4.toList.length:Int))then
 bif !(ak (((nth default w11 v13.toInt.toNat).cell 0).toInt) (((nth default v4.toList v13.toInt.toNat).cell 0).toInt)&&ak (((nth default w11 v13.toInt.toNat).cell 1).toInt) (((nth default v4.toList v13.toInt.toNat).cell 1).toInt))then
 some ([.pv (.int .i64) (PV.int .i64 150)],[])
 else
 rp call k n v0 v1 v2 v3 v4 v5 v6 w7 w8 v9 v10 w11 v12 (PV.int .i64 (IntKind.i64.wrap (v13.toInt+1)))
 else
 none
 else
 none
 else
 z7 call k v0 v1 v2 v3 v4 v5 v6 w7 w8 v9 v10:=by kernel_rfl
theorem Ck:vS call k (n+1) v0 v1 v2 v3 v4 v5 v6 w7 w8 v9 v10 v11 v12=
 bif au (v12.toInt) (v11.toInt)then
 bif aj (0) (v12.toInt)&&au (v12.toInt) ((v10.toList.length:Int))then
 bif au (((nth default v10.toList v12.toInt.toNat).cell 0).toInt) (0)then
 zZ call k n v0 v1 v2 v3 v4 v5 v6 w7 w8 v9 v10 v11 v12 (PV.bool true)
 else
 bif aj ((v1.toList.length:Int)) (((nth default v10.toList v12.toInt.toNat).cell 0).toInt)then
 zZ call k n v0 v1 v2 v3 v4 v5 v6 w7 w8 v9 v10 v11 v12 (PV.bool true)
 else
 vS call k n v0 v1 v2 v3 v4 v5 v6 w7 w8 v9 v10 v11 (PV.int .i64 (IntKind.i64.wrap (v12.toInt+1)))
 else
 none
 else
 let c1:=call 20 [.pv (.st 25) (PV.agg [v0,v1,v2]), .pv (.int .i64) v5]
 bif ab (.st 62) c1 then
 let c2:=call 25 [.pv (.st 25) (PV.agg [v0,v1,v2]), .pv (.int .i64) v5, .pv .bool v6]
 bif ab (.sl 57) c2 then
 bif v9.toBool then
 LN call k v0 v1 v2 v3 v4 v5 v6 w7 w8 ((aa c1).cell 0) ((aa c1).cell 1) (aa c2) (aa c2) (PV.bool true)
 else
 bif !ak (((aa c2).toList.length:Int)) ((v4.toList.length:Int))then
 LN call k v0 v1 v2 v3 v4 v5 v6 w7 w8 ((aa c1).cell 0) ((aa c1).cell 1) (aa c2) (aa c2) (PV.bool true)
 else
 Rj call k k v0 v1 v2 v3 v4 v5 v6 w7 w8 ((aa c1).cell 0) ((aa c1).cell 1) (aa c2) (aa c2) (PV.int .i64 ((aa c2).toList.length:Int)) (PV.int .i64 0)
 else
 bif fU 57 c2 then
 bif v9.toBool then
 rm call k v0 v1 v2 v3 v4 v5 v6 w7 w8 ((aa c1).cell 0) ((aa c1).cell 1) (cB c2) (PV.bool true)
 else
 bif !ak (((cB c2).length:Int)) ((v4.toList.length:Int))then
 rm call k v0 v1 v2 v3 v4 v5 v6 w7 w8 ((aa c1).cell 0) ((aa c1).cell 1) (cB c2) (PV.bool true)
 else
 rp call k k v0 v1 v2 v3 v4 v5 v6 w7 w8 ((aa c1).cell 0) ((aa c1).cell 1) (cB c2) (PV.int .i64 ((cB c2).length:Int)) (PV.int .i64 0)
 else
 none
 else
 none:=by kernel_rfl
theorem Cl:sB call k (n+1) v0 v1 v2 v3 v4 v5 v6 w7 w8 v9 v10 v11 v12=
 bif au (v12.toInt) (v11.toInt)then
 bif aj (0) (v12.toInt)&&au (v12.toInt) ((v10.toList.length:Int))then
 zY call k n k v0 v1 v2 v3 v4 v5 v6 w7 w8 v9 v12 ((nth default v10.toList v12.toInt.toNat).cell 0) ((nth default v10.toList v12.toInt.toNat).cell 1) v10 v11 v12 ((nth default v10.toList v12.toInt.toNat).cell 0) (PV.int .i64 (Nat.cast ((nth default v10.toList v12.toInt.toNat).cell 0).toList.length:Int)) (PV.int .i64 0)
 else
 none
 else
 vS call k k v0 v1 v2 v3 v4 v5 v6 w7 w8 v9 v4 (PV.int .i64 (v4.toList.length:Int)) (PV.int .i64 0):=by kernel_rfl
theorem EI:GG call k (n+1) v0 v1 v2 v3 v4 v5 v6 w7 w8 v9 v10=
 bif au (v10.toInt) (v9.toInt)then
 bif aj (0) (v10.toInt)&&au (v10.toInt) ((w7.length:Int))then
 GG call k n v0 v1 v2 v3 v4 v5 v6 (w7.set v10.toInt.toNat (PV.int .i64 (-1))) w8 v9 (PV.int .i64 (IntKind.i64.wrap (v10.toInt+1)))
 else
 none
 else
 sB call k k v0 v1 v2 v3 v4 v5 v6 w7 w8 (PV.bool false) v3 (PV.int .i64 (v3.toList.length:Int)) (PV.int .i64 0):=by kernel_rfl
theorem R14:aW Try.prog H0 call k 14 [.pv (.st 25) x0, .pv (.st 36) x1]=
 let c0:=call 18 [.pv (.st 25) (PV.agg [x0.cell 0,x0.cell 1,x0.cell 2]), .pv (.int .i64) (x1.cell 2)]
 bif ab .bool c0 then
 bif !(aa c0).toBool then
 some ([.pv (.int .i64) (PV.int .i64 2)],[])
 else
 bif aj (((x0.cell 1).toList.length:Int)) (((x0.cell 1).toList.length:Int))&&(aj (((x0.cell 1).toList.length:Int)) (140737488355328)&&aj ((Nat.cast 8:Int)* ((x0.cell 1).toList.length:Int)) (140737488355328))then
 bif aj (((x0.cell 1).toList.length:Int)) (((x0.cell 1).toList.length:Int))&&(aj (((x0.cell 1).toList.length:Int)) (140737488355328)&&aj ((Nat.cast 8:Int)* ((x0.cell 1).toList.length:Int)) (140737488355328))then
 GG call k k (x0.cell 0) (x0.cell 1) (x0.cell 2) (x1.cell 0) (x1.cell 1) (x1.cell 2) (x1.cell 3) (List.replicate (((x0.cell 1).toList.length:Int)).toNat (PV.int .i64 0)) (List.replicate (((x0.cell 1).toList.length:Int)).toNat (PV.int .i64 0)) (PV.int .i64 (Nat.cast (List.replicate (((x0.cell 1).toList.length:Int)).toNat (PV.int .i64 0)).length:Int)) (PV.int .i64 0)
 else
 none
 else
 none
 else
 none:=by rw[aC];kernel_rfl
end Go.V
namespace Go.V
open Go.Proofs
variable (call:aw) (k m1 m2 m3 n:Nat) (x0 x1 x2 x3 x4 x5 x6 x7 x8 x9:PV) (v0:PV) (w0:List PV) (u0:Nat) (v1:PV) (w1:List PV) (u1:Nat) (v2:PV) (w2:List PV) (u2:Nat) (v3:PV) (w3:List PV) (u3:Nat) (v4:PV) (w4:List PV) (u4:Nat) (v5:PV) (w5:List PV) (u5:Nat) (v6:PV) (w6:List PV) (u6:Nat) (v7:PV) (w7:List PV) (u7:Nat) (v8:PV) (w8:List PV) (u8:Nat) (v9:PV) (w9:List PV) (u9:Nat) (v10:PV) (w10:List PV) (u10:Nat) (v11:PV) (w11:List PV) (u11:Nat) (v12:PV) (w12:List PV) (u12:Nat) (v13:PV) (w13:List PV) (u13:Nat) (v14:PV) (w14:List PV) (u14:Nat) (v15:PV) (w15:List PV) (u15:Nat) (v16:PV) (w16:List PV) (u16:Nat) (v17:PV) (w17:List PV) (u17:Nat) (v18:PV) (w18:List PV) (u18:Nat) (v19:PV) (w19:List PV) (u19:Nat) (v20:PV) (w20:List PV) (u20:Nat) (v21:PV) (w21:List PV) (u21:Nat) (v22:PV) (w22:List PV) (u22:Nat) (v23:PV) (w23:List PV) (u23:Nat) (v24:PV) (w24:List PV) (u24:Nat) (v25:PV) (w25:List PV) (u25:Nat) (v26:PV) (w26:List PV) (u26:Nat) (v27:PV) (w27:List PV) (u27:Nat) (v28:PV) (w28:List PV) (u28:Nat) (v29:PV) (w29:List PV) (u29:Nat) (v30:PV) (w30:List PV) (u30:Nat) (v31:PV) (w31:List PV) (u31:Nat) (v32:PV) (w32:List PV) (u32:Nat) (v33:PV) (w33:List PV) (u33:Nat) (v34:PV) (w34:List PV) (u34:Nat) (v35:PV) (w35:List PV) (u35:Nat) (v36:PV) (w36:List PV) (u36:Nat) (v37:PV) (w37:List PV) (u37:Nat) (v38:PV) (w38:List PV) (u38:Nat) (v39:PV) (w39:List PV) (u39:Nat) (v40:PV) (w40:List PV) (u40:Nat) (v41:PV) (w41:List PV) (u41:Nat) (v42:PV) (w42:List PV) (u42:Nat) (v43:PV) (w43:List PV) (u43:Nat) (v44:PV) (w44:List PV) (u44:Nat) (v45:PV) (w45:List PV) (u45:Nat) (v46:PV) (w46:List PV) (u46:Nat) (v47:PV) (w47:List PV) (u47:Nat) (v48:PV) (w48:List PV) (u48:Nat) (v49:PV) (w49:List PV) (u49:Nat) (v50:PV) (w50:List PV) (u50:Nat) (v51:PV) (w51:List PV) (u51:Nat) (v52:PV) (w52:List PV) (u52:Nat) (v53:PV) (w53:List PV) (u53:Nat) (v54:PV) (w54:List PV) (u54:Nat) (v55:PV) (w55:List PV) (u55:Nat) (v56:PV) (w56:List PV) (u56:Nat) (v57:PV) (w57:List PV) (u57:Nat) (v58:PV) (w58:List PV) (u58:Nat) (v59:PV) (w59:List PV) (u59:Nat)
noncomputable def LO:R:=jn call k 4 2 [.b,.a,.b,.x,.a] (dd::dd::oL 5 v0:: .o (.box 25 [.pv (.int .i64) v1, .pv (.sl 55) v2, .pv (.sl 3) v3]):: .o (.box 36 [.pv (.sl 47) v4, .pv (.sl 57) v5, .pv (.int .i64) v6, .pv .bool v7])::ds 26 (oB v8::ds 116 []))
noncomputable def TG:R:=jn call k 4 5 [.b,.b,.b,.a,.b,.x,.a] (dd::dd::oL 5 v0:: .o (.box 25 [.pv (.int .i64) v1, .pv (.sl 55) v2, .pv (.sl 3) v3]):: .o (.box 36 [.pv (.sl 47) v4, .pv (.sl 57) v5, .pv (.int .i64) v6, .pv .bool v7])::dd::dd::oL 23 v8::ds 29 (oL 23 v9::ds 10 (oB v10::ds 99 [])))
noncomputable def Px:R:=jn call k 4 19 [.b,.b,.b,.b,.b,.b,.b,.a,.aD,.lp m1,.b,.aD,.b,.a,.b,.aD,.lp m2,.b,.b,.a,.aD,.b,.b,.a,.b,.aD,.lp n,.b,.b,.a,.aD,.b,.a,.b,.x,.a] (dd::dd::oL 5 v0:: .o (.box 25 [.pv (.int .i64) v1, .pv (.sl 55) v2, .pv (.sl 3) v3]):: .o (.box 36 [.pv (.sl 47) v4, .pv (.sl 57) v5, .pv (.int .i64) v6, .pv .bool v7])::dd::dd::oL 23 v8::dd:: .o (.box 36 [.arr 47 w9, .pv (.sl 57) v10, .pv (.int .i64) v11, .pv .bool v12]):: .o (.arr 4 w13):: .o (.arr 3 w14)::oI v15::oB v16::dd::oI v17::ds 21 (oL 23 v18::ds 16 (AV.al 10 []::ds 9 (oI v19::oI v20::ds 7 (oL 23 v21::dd:: .ip 23 v22 0::oL 3 v23::oI v24::oI v25::ds 10 (oB v26::ds 58 []))))))
noncomputable def GH:R:=jn call k 4 21 [.b,.b,.b,.b,.b,.b,.b,.a,.aD,.lp m1,.b,.aD,.b,.a,.b,.aD,.lp m2,.b,.b,.a,.aD,.b,.b,.a,.b,.aD,.lp n,.b,.b,.b] (dd::dd::oL 5 v0:: .o (.box 25 [.pv (.int .i64) v1, .pv (.sl 55) v2, .pv (.sl 3) v3]):: .o (.box 36 [.pv (.sl 47) v4, .pv (.sl 57) v5, .pv (.int .i64) v6, .pv .bool v7])::dd::dd::oL 23 v8::dd:: .o (.box 36 [.arr 47 w9, .pv (.sl 57) v10, .pv (.int .i64) v11, .pv .bool v12]):: .o (.arr 4 w13):: .o (.arr 3 w14)::oI v15::oB v16::ds 23 (oL 23 v17::ds 16 (AV.al 10 []::ds 9 (oI v18::oI v19::ds 7 (oL 23 v20::dd:: .ip 23 v21 0::oL 3 v22::oI v23::oI v24::ds 69 [])))))
noncomputable def GI:R:=lq call k 4 n [.b,.b,.b,.b,.b,.b,.b,.a,.aD,.lp m1,.b,.aD,.b,.a,.b,.aD,.lp m2,.b,.b,.a,.aD,.b,.b,.a,.b,.aD] (dd::dd::oL 5 v0:: .o (.box 25 [.pv (.int .i64) v1, .pv (.sl 55) v2, .pv (.sl 3) v3]):: .o (.box 36 [.pv (.sl 47) v4, .pv (.sl 57) v5, .pv (.int .i64) v6, .pv .bool v7])::dd::dd::oL 23 v8::dd:: .o (.box 36 [.arr 47 w9, .pv (.sl 57) v10, .pv (.int .i64) v11, .pv .bool v12]):: .o (.arr 4 w13):: .o (.arr 3 w14)::oI v15::oB v16::ds 23 (oL 23 v17::ds 16 (AV.al 10 []::ds 9 (oI v18::oI v19::ds 7 (oL 23 v20::dd:: .ip 23 v21 0::oL 3 v22::oI v23::oI v24::ds 69 [])))))
noncomputable def yc:R:=jn call k 4 31 [.b,.b,.b,.b,.b,.b,.b,.a,.aD,.lp n,.b,.aD,.b,.b,.b,.b,.b,.a] (dd::dd::oL 5 v0:: .o (.box 25 [.pv (.int .i64) v1, .pv (.sl 55) v2, .pv (.sl 3) v3]):: .o (.box 36 [.pv (.sl 47) v4, .pv (.sl 57) v5, .pv (.int .i64) v6, .pv .bool v7])::dd::dd::oL 23 v8::dd:: .o (.box 36 [.arr 47 w9, .pv (.sl 57) v10, .pv (.int .i64) v11, .pv .bool v12]):: .o (.arr 4 w13):: .o (.arr 3 w14)::ds 4 (oI v15::ds 20 (oL 23 v16::ds 16 (AV.al 10 []::ds 93 []))))
noncomputable def rq:R:=lq call k 4 n [.b,.b,.b,.b,.b,.b,.b,.a,.aD,.lp m1,.b,.aD,.b,.a,.b,.aD] (dd::dd::oL 5 v0:: .o (.box 25 [.pv (.int .i64) v1, .pv (.sl 55) v2, .pv (.sl 3) v3]):: .o (.box 36 [.pv (.sl 47) v4, .pv (.sl 57) v5, .pv (.int .i64) v6, .pv .bool v7])::dd::dd::oL 23 v8::dd:: .o (.box 36 [.arr 47 w9, .pv (.sl 57) v10, .pv (.int .i64) v11, .pv .bool v12]):: .o (.arr 4 w13):: .o (.arr 3 w14)::ds 25 (oL 23 v15::ds 16 (AV.al 10 []::ds 9 (oI v16::oI v17::ds 82 []))))
noncomputable def Oa:R:=lq call k 4 n [.b,.b,.b,.b,.b,.b,.b,.a,.aD] (dd::dd::oL 5 v0:: .o (.box 25 [.pv (.int .i64) v1, .pv (.sl 55) v2, .pv (.sl 3) v3]):: .o (.box 36 [.pv (.sl 47) v4, .pv (.sl 57) v5, .pv (.int .i64) v6, .pv .bool v7])::dd::dd::oL 23 v8::dd:: .o (.box 36 [.arr 47 w9, .pv (.sl 57) v10, .pv (.int .i64) v11, .pv .bool v12]):: .o (.arr 4 w13)::ds 26 (oL 23 v14::ds 16 (AV.al 10 []::ds 93 [])))
theorem z8:LO call k v0 v1 v2 v3 v4 v5 v6 v7 v8=
 let c1:=call 6 []
 bif ab .bool c1 then
 some ([.pv .bool (aa c1)],[])
 else
 none:=by rw[LO,aE];kernel_rfl
theorem LP:GH call k m1 m2 n v0 v1 v2 v3 v4 v5 v6 v7 v8 w9 v10 v11 v12 w13 w14 v15 v16 v17 v18 v19 v20 v21 v22 v23 v24=
 GI call k m1 m2 n v0 v1 v2 v3 v4 v5 v6 v7 v8 w9 v10 v11 v12 w13 w14 v15 v16 v17 v18 v19 v20 v21 v22 v23 (PV.int .i64 (IntKind.i64.wrap (v24.toInt+1))):=by rw[GH,aE];kernel_rfl
theorem EJ:GI call k m1 m2 (n+1) v0 v1 v2 v3 v4 v5 v6 v7 v8 w9 v10 v11 v12 w13 w14 v15 v16 v17 v18 v19 v20 v21 v22 v23 v24=
 bif au (v24.toInt) (v23.toInt)then
 bif aj (0) (v24.toInt)&&au (v24.toInt) ((v22.toList.length:Int))then
 bif au ((nth default v22.toList v24.toInt.toNat).toInt) (0)then
 Px call k m1 m2 n v0 v1 v2 v3 v4 v5 v6 v7 v8 w9 v10 v11 v12 w13 w14 v15 v16 (nth default v22.toList v24.toInt.toNat) v17 v18 v19 v20 v21 v22 v23 v24 (PV.bool true)
 else
 bif aj ((w13.length:Int)) ((nth default v22.toList v24.toInt.toNat).toInt)then
 Px call k m1 m2 n v0 v1 v2 v3 v4 v5 v6 v7 v8 w9 v10 v11 v12 w13 w14 v15 v16 (nth default v22.toList v24.toInt.toNat) v17 v18 v19 v20 v21 v22 v23 v24 (PV.bool true)
 else
 bif v16.toBool then
 bif aj (0) ((nth default v22.toList v24.toInt.toNat).toInt)&&au ((nth default v22.toList v24.toInt.toNat).toInt) ((w13.length:Int))then
 GH call k m1 m2 n v0 v1 v2 v3 v4 v5 v6 v7 v8 w9 v10 v11 v12 w13 w14 v15 (nth default w13 (nth default v22.toList v24.toInt.toNat).toInt.toNat) v17 v18 v19 v20 v21 v22 v23 v24
 else
 none
 else
 GH call k m1 m2 n v0 v1 v2 v3 v4 v5 v6 v7 v8 w9 v10 v11 v12 w13 w14 v15 (PV.bool false) v17 v18 v19 v20 v21 v22 v23 v24
 else
 none
 else
 bif v16.toBool then
 bif AJ ((w14.length+[v15].reverse.length)*8) (room)then
 rq call k m1 m2 v0 v1 v2 v3 v4 v5 v6 v7 v8 w9 v10 v11 v12 w13 (w14++[v15].reverse) v17 v18 (PV.int .i64 (IntKind.i64.wrap (v19.toInt+1)))
 else
 none
 else
 rq call k m1 m2 v0 v1 v2 v3 v4 v5 v6 v7 v8 w9 v10 v11 v12 w13 w14 v17 v18 (PV.int .i64 (IntKind.i64.wrap (v19.toInt+1))):=by kernel_rfl
theorem LQ:yc call k n v0 v1 v2 v3 v4 v5 v6 v7 v8 w9 v10 v11 v12 w13 w14 v15 v16=
 bif aj (0) (v15.toInt)&&au (v15.toInt) ((w14.length:Int))then
 bif aj (0) ((nth default w14 v15.toInt.toNat).toInt)&&au ((nth default w14 v15.toInt.toNat).toInt) ((w13.length:Int))then
 bif aj (0) (v15.toInt)&&au (v15.toInt) ((w14.length:Int))then
 bif aj (0) ((nth default w14 v15.toInt.toNat).toInt)&&au ((nth default w14 v15.toInt.toNat).toInt) ((v4.toList.length:Int))then
 bif AJ ((w9.length+[nth default v4.toList (nth default w14 v15.toInt.toNat).toInt.toNat].reverse.length)*32) (room)then
 Oa call k n v0 v1 v2 v3 v4 v5 v6 v7 v8 (w9++[nth default v4.toList (nth default w14 v15.toInt.toNat).toInt.toNat].reverse) v10 v11 v12 (w13.set (nth default w14 v15.toInt.toNat).toInt.toNat (PV.bool true)) v16
 else
 none
 else
 none
 else
 none
 else
 none
 else
 none:=by rw[yc,aE];kernel_rfl
theorem EK:rq call k m1 (n+1) v0 v1 v2 v3 v4 v5 v6 v7 v8 w9 v10 v11 v12 w13 w14 v15 v16 v17=
 bif au (v17.toInt) (v16.toInt)then
 bif aj (0) (v17.toInt)&&au (v17.toInt) ((w13.length:Int))then
 bif aj (0) (v17.toInt)&&au (v17.toInt) ((v8.toList.length:Int))then
 GI call k m1 n k v0 v1 v2 v3 v4 v5 v6 v7 v8 w9 v10 v11 v12 w13 w14 v17 (PV.bool !(nth default w13 v17.toInt.toNat).toBool) v15 v16 v17 v8 (nth default v8.toList v17.toInt.toNat) (nth default v8.toList v17.toInt.toNat) (PV.int .i64 ((nth default v8.toList v17.toInt.toNat).toList.length:Int)) (PV.int .i64 0)
 else
 none
 else
 none
 else
 bif ak ((w14.length:Int)) (0)then
 some ([.pv .bool (PV.bool false)],[])
 else
 bif au ((w9.length:Int)) ((v0.toList.length:Int))then
 bif au ((w9.length:Int)) ((v0.toList.length:Int))then
 bif ak ((w14.length:Int)) (0)then
 none
 else
 yc call k m1 v0 v1 v2 v3 v4 v5 v6 v7 v8 w9 v10 v11 v12 w13 w14 (PV.int .i64 ((IntKind.i64.wrap (nth default v0.toList ((w9.length:Int)).toNat).toInt).tmod (w14.length:Int))) v15
 else
 none
 else
 yc call k m1 v0 v1 v2 v3 v4 v5 v6 v7 v8 w9 v10 v11 v12 w13 w14 (PV.int .i64 0) v15:=by kernel_rfl
theorem I2:Oa call k (n+1) v0 v1 v2 v3 v4 v5 v6 v7 v8 w9 v10 v11 v12 w13 v14=
 bif au ((w9.length:Int)) ((v4.toList.length:Int))then
 rq call k n k v0 v1 v2 v3 v4 v5 v6 v7 v8 w9 v10 v11 v12 w13 ([]) v14 (PV.int .i64 (v4.toList.length:Int)) (PV.int .i64 0)
 else
 let c5:=call 13 [.pv (.st 25) (PV.agg [v1,v2,v3]), .pv (.st 36) (PV.agg [PV.sl w9,v10,v11,v12])]
 bif ab (.int .i64) c5 then
 bif ak ((aa c5).toInt) (0)then
 let c6:=call 6 []
 bif ab .bool c6 then
 some ([.pv .bool (aa c6)],[])
 else
 none
 else
 some ([.pv .bool (PV.bool false)],[])
 else
 none:=by kernel_rfl
theorem R4:aW Try.prog H0 call k 4 [.pv (.st 25) x0, .pv (.st 36) x1, .pv (.sl 5) x2]=
 let c0:=call 5 [.pv (.st 25) (PV.agg [x0.cell 0,x0.cell 1,x0.cell 2])]
 bif ab .bool c0 then
 bif !(aa c0).toBool then
 LO call k x2 (x0.cell 0) (x0.cell 1) (x0.cell 2) (x1.cell 0) (x1.cell 1) (x1.cell 2) (x1.cell 3) (PV.bool true)
 else
 let c2:=call 15 [.pv (.st 36) (PV.agg [x1.cell 0,x1.cell 1,x1.cell 2,x1.cell 3])]
 bif ab .bool c2 then
 bif !(aa c2).toBool then
 LO call k x2 (x0.cell 0) (x0.cell 1) (x0.cell 2) (x1.cell 0) (x1.cell 1) (x1.cell 2) (x1.cell 3) (PV.bool true)
 else
 let c3:=call 14 [.pv (.st 25) (PV.agg [x0.cell 0,x0.cell 1,x0.cell 2]), .pv (.st 36) (PV.agg [x1.cell 0,x1.cell 1,x1.cell 2,x1.cell 3])]
 bif ab (.int .i64) c3 then
 bif !ak ((aa c3).toInt) (0)then
 LO call k x2 (x0.cell 0) (x0.cell 1) (x0.cell 2) (x1.cell 0) (x1.cell 1) (x1.cell 2) (x1.cell 3) (PV.bool true)
 else
 let c4:=call 16 [.pv (.st 25) (PV.agg [x0.cell 0,x0.cell 1,x0.cell 2]), .pv (.st 36) (PV.agg [x1.cell 0,x1.cell 1,x1.cell 2,x1.cell 3])]
 bif cc (List.map (ai Try.prog) #[28,29].toList) c4 then
 bif !ak ((bk 1 c4).toInt) (0)then
 TG call k x2 (x0.cell 0) (x0.cell 1) (x0.cell 2) (x1.cell 0) (x1.cell 1) (x1.cell 2) (x1.cell 3) (bk 0 c4) (bk 0 c4) (PV.bool true)
 else
 bif !ak (((bk 0 c4).toList.length:Int)) (((x1.cell 0).toList.length:Int))then
 TG call k x2 (x0.cell 0) (x0.cell 1) (x0.cell 2) (x1.cell 0) (x1.cell 1) (x1.cell 2) (x1.cell 3) (bk 0 c4) (bk 0 c4) (PV.bool true)
 else
 bif aj (((x1.cell 0).toList.length:Int)) (((x1.cell 0).toList.length:Int))&&(aj (((x1.cell 0).toList.length:Int)) (140737488355328)&&aj ((Nat.cast 1:Int)* ((x1.cell 0).toList.length:Int)) (140737488355328))then
 Oa call k k x2 (x0.cell 0) (x0.cell 1) (x0.cell 2) (x1.cell 0) (x1.cell 1) (x1.cell 2) (x1.cell 3) (bk 0 c4) ([]) (x1.cell 1) (x1.cell 2) (x1.cell 3) (List.replicate (((x1.cell 0).toList.length:Int)).toNat (PV.bool false)) (bk 0 c4)
 else
 none
 else
 none
 else
 none
 else
 none
 else
 none:=by rw[aC];kernel_rfl
noncomputable def Aa:R:=jn call k 16 20 [.b,.b,.b,.b,.b,.a,.b,.aD,.lp m1,.b,.b,.a,.aD,.b,.a,.b,.aD,.lp n,.b,.b,.b] (dd::dd::dd:: .o (.box 36 [.pv (.sl 47) v0, .pv (.sl 57) v1, .pv (.int .i64) v2, .pv .bool v3])::dd::dd::dd::oL 80 v4::dd:: .o (.box 65 [.pv (.sl 23) v5, .pv (.sl 23) v6]):: .o (.own 23 3 w7 none)::oI v8:: .o (.box 47 [.pv (.sl 3) v9, .pv .bool v10])::ds 15 (oL 80 v11::ds 8 (AV.al 10 []:: .ptr 3 [] 0::oL 47 v12::oI v13::oI v14::ds 4 (AV.ptr 12 [] 0::oL 3 v15::oI v16::oI v17::ds 47 []))))
noncomputable def Rk:R:=lq call k 16 n [.b,.b,.b,.b,.b,.a,.b,.aD,.lp m1,.b,.b,.a,.aD,.b,.a,.b,.aD,.lp m2,.b,.b,.a,.aD,.b,.b,.aD] (dd::dd::dd:: .o (.box 36 [.pv (.sl 47) v0, .pv (.sl 57) v1, .pv (.int .i64) v2, .pv .bool v3])::dd::dd::dd::oL 80 v4::dd:: .o (.box 65 [.pv (.sl 23) v5, .pv (.sl 23) v6]):: .o (.own 23 3 w7 none)::oI v8:: .o (.box 47 [.pv (.sl 3) v9, .pv .bool v10])::ds 15 (oL 80 v11::ds 8 (AV.al 10 []:: .ptr 3 [] 0::oL 47 v12::oI v13::oI v14::ds 4 (AV.ptr 12 [] 0::oL 3 v15::oI v16::oI v17::ds 5 (oL 3 v18::oI v19::oI v20::ds 39 [])))))
noncomputable def oR:R:=jn call k 16 19 [.b,.b,.b,.b,.b,.a,.b,.aD,.lp m1,.b,.b,.a,.aD,.b,.a,.b,.aD,.lp m2,.b,.b,.a,.aD,.b,.b,.aD,.lp n,.b,.b,.b] (dd::dd::dd:: .o (.box 36 [.pv (.sl 47) v0, .pv (.sl 57) v1, .pv (.int .i64) v2, .pv .bool v3])::dd::dd::dd::oL 80 v4::dd:: .o (.box 65 [.pv (.sl 23) v5, .pv (.sl 23) v6]):: .o (.own 23 3 w7 none)::oI v8:: .o (.box 47 [.pv (.sl 3) v9, .pv .bool v10])::ds 15 (oL 80 v11::ds 8 (AV.al 10 []:: .ptr 3 [] 0::oL 47 v12::oI v13::oI v14::ds 4 (AV.ptr 12 [] 0::oL 3 v15::oI v16::oI v17::ds 5 (.o (.arr 3 w18)::oI v19::oI v20::ds 39 [])))))
noncomputable def ru:R:=lq call k 16 n [.b,.b,.b,.b,.b,.a,.b,.aD,.lp m1,.b,.b,.a,.aD,.b,.a,.b,.aD,.lp m2,.b,.b,.a,.aD,.b,.b,.aD] (dd::dd::dd:: .o (.box 36 [.pv (.sl 47) v0, .pv (.sl 57) v1, .pv (.int .i64) v2, .pv .bool v3])::dd::dd::dd::oL 80 v4::dd:: .o (.box 65 [.pv (.sl 23) v5, .pv (.sl 23) v6]):: .o (.own 23 3 w7 none)::oI v8:: .o (.box 47 [.pv (.sl 3) v9, .pv .bool v10])::ds 15 (oL 80 v11::ds 8 (AV.al 10 []:: .ptr 3 [] 0::oL 47 v12::oI v13::oI v14::ds 4 (AV.ptr 12 [] 0::oL 3 v15::oI v16::oI v17::ds 5 (.o (.arr 3 w18)::oI v19::oI v20::ds 39 [])))))
noncomputable def Ab:R:=lq call k 16 n [.b,.b,.b,.b,.b,.a,.b,.aD,.lp m1,.b,.b,.a,.aD,.b,.a,.b,.aD] (dd::dd::dd:: .o (.box 36 [.pv (.sl 47) v0, .pv (.sl 57) v1, .pv (.int .i64) v2, .pv .bool v3])::dd::dd::dd::oL 80 v4::dd:: .o (.box 65 [.pv (.sl 23) v5, .pv (.sl 23) v6]):: .o (.own 23 3 w7 none)::oI v8:: .o (.box 47 [.pv (.sl 3) v9, .pv .bool v10])::ds 15 (oL 80 v11::ds 8 (AV.al 10 []:: .ptr 3 [] 0::oL 47 v12::oI v13::oI v14::ds 4 (AV.ptr 12 [] 0::oL 3 v15::oI v16::oI v17::ds 47 []))))
noncomputable def Cm:R:=lq call k 16 n [.b,.b,.b,.b,.b,.a,.b,.aD] (dd::dd::dd:: .o (.box 36 [.pv (.sl 47) v0, .pv (.sl 57) v1, .pv (.int .i64) v2, .pv .bool v3])::dd::dd::dd::oL 80 v4::dd:: .o (.box 65 [.pv (.sl 23) v5, .pv (.sl 23) v6]):: .o (.own 23 3 w7 none)::ds 17 (oL 80 v8::ds 8 (AV.al 10 []:: .ptr 3 [] 0::oL 47 v9::oI v10::oI v11::ds 55 [])))
theorem I3:Aa call k m1 n v0 v1 v2 v3 v4 v5 v6 w7 v8 v9 v10 v11 v12 v13 v14 v15 v16 v17=
 Ab call k m1 n v0 v1 v2 v3 v4 v5 v6 w7 v8 v9 v10 v11 v12 v13 v14 v15 v16 (PV.int .i64 (IntKind.i64.wrap (v17.toInt+1))):=by rw[Aa,aE];kernel_rfl
theorem Cn:oR call k m1 m2 n v0 v1 v2 v3 v4 v5 v6 w7 v8 v9 v10 v11 v12 v13 v14 v15 v16 v17 w18 v19 v20=
 ru call k m1 m2 n v0 v1 v2 v3 v4 v5 v6 w7 v8 v9 v10 v11 v12 v13 v14 v15 v16 v17 w18 v19 (PV.int .i64 (IntKind.i64.wrap (v20.toInt+1))):=by rw[oR,aE];kernel_rfl
theorem xm:ru call k m1 m2 (n+1) v0 v1 v2 v3 v4 v5 v6 w7 v8 v9 v10 v11 v12 v13 v14 v15 v16 v17 w18 v19 v20=
 bif au (v20.toInt) (v19.toInt)then
 bif aj (0) (v20.toInt)&&au (v20.toInt) ((w18.length:Int))then
 bif aj (0) ((nth default w18 v20.toInt.toNat).toInt)&&au ((nth default w18 v20.toInt.toNat).toInt) ((v4.toList.length:Int))then
 bif !ak (((nth default v4.toList (nth default w18 v20.toInt.toNat).toInt.toNat).cell 0).toInt) (v8.toInt)then
 bif aj (0) (v8.toInt)&&au (v8.toInt) ((w7.length:Int))then
 bif Jv (v8.toInt.toNat) (w7.length)&&true&&true then
 let c5:=call 32 [.arr 3 (nth default w7 v8.toInt.toNat).toList, .pv (.int .i64) ((nth default v4.toList (nth default w18 v20.toInt.toNat).toInt.toNat).cell 0)]
 bif eG (di [.arr 3 (nth default w7 v8.toInt.toNat).toList, .pv (.int .i64) ((nth default v4.toList (nth default w18 v20.toInt.toNat).toInt.toNat).cell 0)]) c5&&kI c5 (di [.arr 3 (nth default w7 v8.toInt.toNat).toList, .pv (.int .i64) ((nth default v4.toList (nth default w18 v20.toInt.toNat).toInt.toNat).cell 0)]) 0 then
 bif ab .bool c5 then
 bif !(aa c5).toBool then
 bif aj (0) (v8.toInt)&&au (v8.toInt) ((Nat.cast (w7.set v8.toInt.toNat (PV.sl (cZ (bD 0 c5)))).length:Int))then
 bif AJ (((nth default (w7.set v8.toInt.toNat (PV.sl (cZ (bD 0 c5)))) v8.toInt.toNat).toList.length+[(nth default v4.toList (nth default w18 v20.toInt.toNat).toInt.toNat).cell 0].reverse.length)*8) (room)then
 bif aj (0) (v8.toInt)&&au (v8.toInt) ((Nat.cast (w7.set v8.toInt.toNat (PV.sl (cZ (bD 0 c5)))).length:Int))then
 bif jo (some v8.toInt.toNat) v8.toInt.toNat&&true then
 oR call k m1 m2 n v0 v1 v2 v3 v4 v5 v6 ((w7.set v8.toInt.toNat (PV.sl (cZ (bD 0 c5)))).set v8.toInt.toNat (PV.sl ((nth default (w7.set v8.toInt.toNat (PV.sl (cZ (bD 0 c5)))) v8.toInt.toNat).toList++[(nth default v4.toList (nth default w18 v20.toInt.toNat).toInt.toNat).cell 0].reverse))) v8 v9 v10 v11 v12 v13 v14 v15 v16 v17 w18 v19 v20
 else
 none
 else
 none
 else
 none
 else
 none
 else
 oR call k m1 m2 n v0 v1 v2 v3 v4 v5 v6 (w7.set v8.toInt.toNat (PV.sl (cZ (bD 0 c5)))) v8 v9 v10 v11 v12 v13 v14 v15 v16 v17 w18 v19 v20
 else
 none
 else
 none
 else
 none
 else
 none
 else
 oR call k m1 m2 n v0 v1 v2 v3 v4 v5 v6 w7 v8 v9 v10 v11 v12 v13 v14 v15 v16 v17 w18 v19 v20
 else
 none
 else
 none
 else
 Aa call k m1 m2 v0 v1 v2 v3 v4 v5 v6 w7 v8 v9 v10 v11 v12 v13 v14 v15 v16 v17:=by kernel_rfl
theorem Co:Ab call k m1 (n+1) v0 v1 v2 v3 v4 v5 v6 w7 v8 v9 v10 v11 v12 v13 v14 v15 v16 v17=
 bif au (v17.toInt) (v16.toInt)then
 bif aj (0) (v17.toInt)&&au (v17.toInt) ((v15.toList.length:Int))then
 let c3:=call 31 [.pv (.st 65) (PV.agg [v5,v6]), .pv (.int .i64) (nth default v15.toList v17.toInt.toNat)]
 bif ab (.sl 3) c3 then
 Rk call k m1 n k v0 v1 v2 v3 v4 v5 v6 w7 v8 v9 v10 v11 v12 v13 v14 v15 v16 v17 (aa c3) (PV.int .i64 ((aa c3).toList.length:Int)) (PV.int .i64 0)
 else
 bif fU 3 c3 then
 ru call k m1 n k v0 v1 v2 v3 v4 v5 v6 w7 v8 v9 v10 v11 v12 v13 v14 v15 v16 v17 (cB c3) (PV.int .i64 ((cB c3).length:Int)) (PV.int .i64 0)
 else
 none
 else
 none
 else
 bif aj (0) (v8.toInt)&&au (v8.toInt) ((w7.length:Int))then
 bif Jv (v8.toInt.toNat) (w7.length)&&true&&true then
 let c6:=call 36 [.arr 3 (nth default w7 v8.toInt.toNat).toList]
 bif eG (di [.arr 3 (nth default w7 v8.toInt.toNat).toList]) c6&&kI c6 (di [.arr 3 (nth default w7 v8.toInt.toNat).toList]) 0 then
 bif cc (List.map (ai Try.prog) #[].toList) c6 then
 Cm call k m1 v0 v1 v2 v3 v4 v5 v6 (w7.set v8.toInt.toNat (PV.sl (cZ (bD 0 c6)))) v11 v12 v13 (PV.int .i64 (IntKind.i64.wrap (v14.toInt+1)))
 else
 none
 else
 none
 else
 none
 else
 none:=by kernel_rfl
theorem EL:Cm call k (n+1) v0 v1 v2 v3 v4 v5 v6 w7 v8 v9 v10 v11=
 bif au (v11.toInt) (v10.toInt)then
 bif aj (0) (v11.toInt)&&au (v11.toInt) ((v9.toList.length:Int))then
 Ab call k n k v0 v1 v2 v3 v4 v5 v6 w7 v11 ((nth default v9.toList v11.toInt.toNat).cell 0) ((nth default v9.toList v11.toInt.toNat).cell 1) v8 v9 v10 v11 ((nth default v9.toList v11.toInt.toNat).cell 0) (PV.int .i64 (Nat.cast ((nth default v9.toList v11.toInt.toNat).cell 0).toList.length:Int)) (PV.int .i64 0)
 else
 none
 else
 some ([.pv (.sl 23) (PV.sl w7), .pv (.int .i64) (PV.int .i64 0)],[]):=by kernel_rfl
theorem R16:aW Try.prog H0 call k 16 [.pv (.st 25) x0, .pv (.st 36) x1]=
 let c0:=call 13 [.pv (.st 25) (PV.agg [x0.cell 0,x0.cell 1,x0.cell 2]), .pv (.st 36) (PV.agg [x1.cell 0,x1.cell 1,x1.cell 2,x1.cell 3])]
 bif ab (.int .i64) c0 then
 bif !ak ((aa c0).toInt) (0)then
 some ([.pv (.sl 23) (PV.sl []), .pv (.int .i64) (aa c0)],[])
 else
 let c1:=call 34 [.pv (.st 25) (PV.agg [x0.cell 0,x0.cell 1,x0.cell 2]), .pv (.st 36) (PV.agg [x1.cell 0,x1.cell 1,x1.cell 2,x1.cell 3])]
 bif cc (List.map (ai Try.prog) #[75,29].toList) c1 then
 let c2:=call 22 [.pv (.st 25) (PV.agg [x0.cell 0,x0.cell 1,x0.cell 2]), .pv (.int .i64) (x1.cell 2)]
 bif ab (.st 65) c2 then
 bif aj (((x1.cell 0).toList.length:Int)) (((x1.cell 0).toList.length:Int))&&(aj (((x1.cell 0).toList.length:Int)) (140737488355328)&&aj ((Nat.cast 24:Int)* ((x1.cell 0).toList.length:Int)) (140737488355328))then
 Cm call k k (x1.cell 0) (x1.cell 1) (x1.cell 2) (x1.cell 3) (bk 0 c1) ((aa c2).cell 0) ((aa c2).cell 1) (List.replicate (((x1.cell 0).toList.length:Int)).toNat (PV.sl [])) (bk 0 c1) (x1.cell 0) (PV.int .i64 ((x1.cell 0).toList.length:Int)) (PV.int .i64 0)
 else
 none
 else
 none
 else
 none
 else
 none:=by rw[aC];kernel_rfl
theorem R31:aW Try.prog H0 call k 31 [.pv (.st 65) x0, .pv (.int .i64) x1]=
 bif aj (0) (x1.toInt)&&au (x1.toInt) (((x0.cell 0).toList.length:Int))then
 let c0:=call 43 [.pv (.sl 3) (nth default (x0.cell 0).toList x1.toInt.toNat)]
 bif ab (.sl 3) c0 then
 bif aj (0) (x1.toInt)&&au (x1.toInt) (((x0.cell 1).toList.length:Int))then
 none
 else
 none
 else
 bif fU 3 c0 then
 bif aj (0) (x1.toInt)&&au (x1.toInt) (((x0.cell 1).toList.length:Int))then
 bif AJ (((cB c0).length+(nth default (x0.cell 1).toList x1.toInt.toNat).toList.length)*8) (room)then
 some ([.arr 3 (cB c0++(nth default (x0.cell 1).toList x1.toInt.toNat).toList)],[])
 else
 none
 else
 none
 else
 none
 else
 none:=by rw[aC];kernel_rfl
end Go.V
namespace Go.V
open Go.Proofs
variable (call:aw) (k m1 m2 m3 n:Nat) (x0 x1 x2 x3 x4 x5 x6 x7 x8 x9:PV) (v0:PV) (w0:List PV) (u0:Nat) (v1:PV) (w1:List PV) (u1:Nat) (v2:PV) (w2:List PV) (u2:Nat) (v3:PV) (w3:List PV) (u3:Nat) (v4:PV) (w4:List PV) (u4:Nat) (v5:PV) (w5:List PV) (u5:Nat) (v6:PV) (w6:List PV) (u6:Nat) (v7:PV) (w7:List PV) (u7:Nat) (v8:PV) (w8:List PV) (u8:Nat) (v9:PV) (w9:List PV) (u9:Nat) (v10:PV) (w10:List PV) (u10:Nat) (v11:PV) (w11:List PV) (u11:Nat) (v12:PV) (w12:List PV) (u12:Nat) (v13:PV) (w13:List PV) (u13:Nat) (v14:PV) (w14:List PV) (u14:Nat) (v15:PV) (w15:List PV) (u15:Nat) (v16:PV) (w16:List PV) (u16:Nat) (v17:PV) (w17:List PV) (u17:Nat) (v18:PV) (w18:List PV) (u18:Nat) (v19:PV) (w19:List PV) (u19:Nat) (v20:PV) (w20:List PV) (u20:Nat) (v21:PV) (w21:List PV) (u21:Nat) (v22:PV) (w22:List PV) (u22:Nat) (v23:PV) (w23:List PV) (u23:Nat) (v24:PV) (w24:List PV) (u24:Nat) (v25:PV) (w25:List PV) (u25:Nat) (v26:PV) (w26:List PV) (u26:Nat) (v27:PV) (w27:List PV) (u27:Nat) (v28:PV) (w28:List PV) (u28:Nat) (v29:PV) (w29:List PV) (u29:Nat) (v30:PV) (w30:List PV) (u30:Nat) (v31:PV) (w31:List PV) (u31:Nat) (v32:PV) (w32:List PV) (u32:Nat) (v33:PV) (w33:List PV) (u33:Nat) (v34:PV) (w34:List PV) (u34:Nat) (v35:PV) (w35:List PV) (u35:Nat) (v36:PV) (w36:List PV) (u36:Nat) (v37:PV) (w37:List PV) (u37:Nat) (v38:PV) (w38:List PV) (u38:Nat) (v39:PV) (w39:List PV) (u39:Nat) (v40:PV) (w40:List PV) (u40:Nat) (v41:PV) (w41:List PV) (u41:Nat) (v42:PV) (w42:List PV) (u42:Nat) (v43:PV) (w43:List PV) (u43:Nat) (v44:PV) (w44:List PV) (u44:Nat) (v45:PV) (w45:List PV) (u45:Nat) (v46:PV) (w46:List PV) (u46:Nat) (v47:PV) (w47:List PV) (u47:Nat) (v48:PV) (w48:List PV) (u48:Nat) (v49:PV) (w49:List PV) (u49:Nat) (v50:PV) (w50:List PV) (u50:Nat) (v51:PV) (w51:List PV) (u51:Nat) (v52:PV) (w52:List PV) (u52:Nat) (v53:PV) (w53:List PV) (u53:Nat) (v54:PV) (w54:List PV) (u54:Nat) (v55:PV) (w55:List PV) (u55:Nat) (v56:PV) (w56:List PV) (u56:Nat) (v57:PV) (w57:List PV) (u57:Nat) (v58:PV) (w58:List PV) (u58:Nat) (v59:PV) (w59:List PV) (u59:Nat)
theorem R32 (x0:List PV):aW Try.prog H0 call k 32 [.arr 3 x0, .pv (.int .i64) x1]=
 let c0:=call 44 [.arr 3 x0, .pv (.int .i64) x1]
 bif eG (di [.arr 3 x0, .pv (.int .i64) x1]) c0&&kI c0 (di [.arr 3 x0, .pv (.int .i64) x1]) 0 then
 bif ab (.int .i64) c0 then
 some ([.pv .bool (PV.bool (aj (0) ((aa c0).toInt)))],[.arr 3 (cZ (bD 0 c0))])
 else
 none
 else
 none:=by rw[aC];kernel_rfl
noncomputable def LR:R:=jn call k 44 6 [.b,.a,.b,.aD,.lp n,.b,.b,.b] (AV.al 19 []::oI v0::ds 5 (oI v1::oI v2::ds 10 ([AV.o (.arr 3 w3)])))
noncomputable def LS:R:=jn call k 44 3 [.b,.a,.b,.aD,.lp n,.b,.b,.a,.aD,.a] (AV.al 19 []::oI v0::ds 5 (oI v1::oI v2::ds 10 ([AV.o (.arr 3 w3)])))
noncomputable def LU:R:=jn call k 44 7 [.b,.b,.a] (ds 19 ([AV.o (.arr 3 w0)]))
noncomputable def GJ:R:=lq call k 44 n [.b,.a,.b,.aD] (AV.al 19 []::oI v0::ds 5 (oI v1::oI v2::ds 10 ([AV.o (.arr 3 w3)])))
theorem LV:LR call k n v0 v1 v2 w3=
 GJ call k n v0 v1 (PV.int .i64 (IntKind.i64.wrap (v2.toInt+1))) w3:=by rw[LR,aE];kernel_rfl
theorem LW:LS call k n v0 v1 v2 w3=
 bif aj (0) (v2.toInt)&&au (v2.toInt) ((w3.length:Int))then
 bif ak (v0.toInt) ((nth default w3 v2.toInt.toNat).toInt)then
 some ([.pv (.int .i64) v2],[.arr 3 w3])
 else
 LR call k n v0 v1 v2 w3
 else
 none:=by rw[LS,aE];kernel_rfl
theorem LX:LU call k w0=
 some ([.pv (.int .i64) (PV.int .i64 (-1))],[.arr 3 w0]):=by rw[LU,aE];kernel_rfl
theorem EM:GJ call k (n+1) v0 v1 v2 w3=
 bif au (v2.toInt) (v1.toInt)then
 LS call k n v0 v1 v2 w3
 else
 LU call k w3:=by kernel_rfl
theorem R44 (x0:List PV):aW Try.prog H0 call k 44 [.arr 3 x0, .pv (.int .i64) x1]=
 GJ call k k x1 (PV.int .i64 (x0.length:Int)) (PV.int .i64 0) x0:=by rw[aC];kernel_rfl
end Go.V
