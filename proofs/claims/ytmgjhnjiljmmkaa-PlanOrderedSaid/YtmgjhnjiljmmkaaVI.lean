/- Such equations, third part. Conditions: those that each theorem names. (Names are short so that the claim keeps to its size.) -/
import Derived.Test.YtmgjhnjiljmmkaaVH
set_option linter.unusedSimpArgs false
set_option linter.unusedVariables false
set_option maxRecDepth 100000
namespace Go.V
open Go.Proofs
variable (call:aw) (k m1 m2 m3 n:Nat) (x0 x1 x2 x3 x4 x5 x6 x7 x8 x9:PV) (v0:PV) (w0:List PV) (u0:Nat) (v1:PV) (w1:List PV) (u1:Nat) (v2:PV) (w2:List PV) (u2:Nat) (v3:PV) (w3:List PV) (u3:Nat) (v4:PV) (w4:List PV) (u4:Nat) (v5:PV) (w5:List PV) (u5:Nat) (v6:PV) (w6:List PV) (u6:Nat) (v7:PV) (w7:List PV) (u7:Nat) (v8:PV) (w8:List PV) (u8:Nat) (v9:PV) (w9:List PV) (u9:Nat) (v10:PV) (w10:List PV) (u10:Nat) (v11:PV) (w11:List PV) (u11:Nat) (v12:PV) (w12:List PV) (u12:Nat) (v13:PV) (w13:List PV) (u13:Nat) (v14:PV) (w14:List PV) (u14:Nat) (v15:PV) (w15:List PV) (u15:Nat) (v16:PV) (w16:List PV) (u16:Nat) (v17:PV) (w17:List PV) (u17:Nat) (v18:PV) (w18:List PV) (u18:Nat) (v19:PV) (w19:List PV) (u19:Nat) (v20:PV) (w20:List PV) (u20:Nat) (v21:PV) (w21:List PV) (u21:Nat) (v22:PV) (w22:List PV) (u22:Nat) (v23:PV) (w23:List PV) (u23:Nat) (v24:PV) (w24:List PV) (u24:Nat) (v25:PV) (w25:List PV) (u25:Nat) (v26:PV) (w26:List PV) (u26:Nat) (v27:PV) (w27:List PV) (u27:Nat) (v28:PV) (w28:List PV) (u28:Nat) (v29:PV) (w29:List PV) (u29:Nat) (v30:PV) (w30:List PV) (u30:Nat) (v31:PV) (w31:List PV) (u31:Nat) (v32:PV) (w32:List PV) (u32:Nat) (v33:PV) (w33:List PV) (u33:Nat) (v34:PV) (w34:List PV) (u34:Nat) (v35:PV) (w35:List PV) (u35:Nat) (v36:PV) (w36:List PV) (u36:Nat) (v37:PV) (w37:List PV) (u37:Nat) (v38:PV) (w38:List PV) (u38:Nat) (v39:PV) (w39:List PV) (u39:Nat) (v40:PV) (w40:List PV) (u40:Nat) (v41:PV) (w41:List PV) (u41:Nat) (v42:PV) (w42:List PV) (u42:Nat) (v43:PV) (w43:List PV) (u43:Nat) (v44:PV) (w44:List PV) (u44:Nat) (v45:PV) (w45:List PV) (u45:Nat) (v46:PV) (w46:List PV) (u46:Nat) (v47:PV) (w47:List PV) (u47:Nat) (v48:PV) (w48:List PV) (u48:Nat) (v49:PV) (w49:List PV) (u49:Nat) (v50:PV) (w50:List PV) (u50:Nat) (v51:PV) (w51:List PV) (u51:Nat) (v52:PV) (w52:List PV) (u52:Nat) (v53:PV) (w53:List PV) (u53:Nat) (v54:PV) (w54:List PV) (u54:Nat) (v55:PV) (w55:List PV) (u55:Nat) (v56:PV) (w56:List PV) (u56:Nat) (v57:PV) (w57:List PV) (u57:Nat) (v58:PV) (w58:List PV) (u58:Nat) (v59:PV) (w59:List PV) (u59:Nat)
noncomputable def bF:R:=jn call k 77 2 [.b,.a,.b,.x,.a] (dd::oS v0::dd::oI v1::oI v2::oL 128 v3::dd:: .o (.box 121 [.pv (.int .i64) v4, .pv (.int .i64) v5, .pv (.int .i64) v6, .pv .bool v7, .pv .bool v8, .pv .bool v9, .pv .bool v10, .pv (.int .i64) v11, .pv (.int .i64) v12])::ds 60 (oB v13::ds 59 []))
noncomputable def Gz:R:=jn call k 77 4 [.b,.b,.a,.b,.x,.a] (dd::oS v0::dd::oI v1::oI v2::oL 128 v3::ds 74 (oB v4::ds 47 []))
noncomputable def zH:R:=jn call k 77 19 [.b,.b,.b,.b,.a,.b,.aD,.b,.y,.b,.y,.b,.y,.b,.x,.a] (dd::dd::dd::oI v0::ds 115 (oB v1::ds 8 []))
noncomputable def GA:R:=lq call k 77 n [.b,.b,.b,.a,.b,.aD] (dd::oS v0::dd::oI v1::oI v2::oL 128 v3::ds 9 (oI v4::ds 112 []))
noncomputable def bE:R:=jn call k 77 3 [.b,.b,.a,.a] (dd::oS v0::dd::oI v1::oI v2::oL 128 v3::dd:: .o (.box 121 [.pv (.int .i64) v4, .pv (.int .i64) v5, .pv (.int .i64) v6, .pv .bool v7, .pv .bool v8, .pv .bool v9, .pv .bool v10, .pv (.int .i64) v11, .pv (.int .i64) v12])::ds 120 [])
theorem LB:bF call k v0 v1 v2 v3 v4 v5 v6 v7 v8 v9 v10 v11 v12 v13=
 some ([.pv .bool (PV.bool false)],[]):=by rw[bF,aE];kernel_rfl
theorem LC:Gz call k v0 v1 v2 v3 v4=
 some ([.pv .bool (PV.bool false)],[]):=by rw[Gz,aE];kernel_rfl
theorem Iy:zH call k v0 v1=
 bif aj (1) (v0.toInt)then
 some ([.pv .bool (PV.bool (aj (v0.toInt) (8)))],[])
 else
 some ([.pv .bool (PV.bool false)],[]):=by rw[zH,aE];kernel_rfl
theorem Ew:GA call k (n+1) v0 v1 v2 v3 v4=
 bif au (v4.toInt) ((v3.toList.length:Int))then
 bif aj (0) (v4.toInt)&&au (v4.toInt) ((v3.toList.length:Int))then
 let c2:=call 85 [.pv (.st 128) (nth default v3.toList v4.toInt.toNat)]
 bif ab .bool c2 then
 bif !(aa c2).toBool then
 some ([.pv .bool (PV.bool false)],[])
 else
 GA call k n v0 v1 v2 v3 (PV.int .i64 (IntKind.i64.wrap (v4.toInt+1)))
 else
 none
 else
 none
 else
 bif v0.toStr.data.toList==(ByteArray.mk #[100,101,108,97,121]).data.toList then
 bif aj (0) (v1.toInt)then
 some ([.pv .bool (PV.bool (aj (v1.toInt) (4096)))],[])
 else
 some ([.pv .bool (PV.bool false)],[])
 else
 bif v0.toStr.data.toList==(ByteArray.mk #[118,97,114,121]).data.toList then
 bif aj (0) (v1.toInt)then
 bif aj (v1.toInt) (v2.toInt)then
 some ([.pv .bool (PV.bool (aj (v2.toInt) (4096)))],[])
 else
 some ([.pv .bool (PV.bool false)],[])
 else
 some ([.pv .bool (PV.bool false)],[])
 else
 bif v0.toStr.data.toList==(ByteArray.mk #[107,110,111,98]).data.toList then
 let c3:=call 86 [.pv (.sl 128) v3]
 bif ab .bool c3 then
 some ([.pv .bool (aa c3)],[])
 else
 none
 else
 bif v0.toStr.data.toList==(ByteArray.mk #[117,112]).data.toList then
 zH call k v1 (PV.bool true)
 else
 bif v0.toStr.data.toList==(ByteArray.mk #[100,111,119,110]).data.toList then
 zH call k v1 (PV.bool true)
 else
 some ([.pv .bool (PV.bool true)],[]):=by kernel_rfl
theorem LD:bE call k v0 v1 v2 v3 v4 v5 v6 v7 v8 v9 v10 v11 v12=
 bif au ((v3.toList.length:Int)) (v11.toInt)then
 Gz call k v0 v1 v2 v3 (PV.bool true)
 else
 bif au (v12.toInt) ((v3.toList.length:Int))then
 Gz call k v0 v1 v2 v3 (PV.bool true)
 else
 GA call k k v0 v1 v2 v3 (PV.int .i64 0):=by rw[bE,aE];kernel_rfl
theorem R77:aW Try.prog H0 call k 77 [.pv (.st 121) x0, .pv Ty.str x1, .pv Ty.str x2, .pv (.int .i64) x3, .pv (.int .i64) x4, .pv (.sl 128) x5, .pv (.st 52) x6]=
 bif !(x0.cell 5).toBool then
 bif !x2.toStr.data.toList==(ByteArray.mk #[]).data.toList then
 bF call k x1 x3 x4 x5 (x0.cell 0) (x0.cell 1) (x0.cell 2) (x0.cell 3) (x0.cell 4) (x0.cell 5) (x0.cell 6) (x0.cell 7) (x0.cell 8) (PV.bool true)
 else
 bif (x0.cell 5).toBool then
 let c0:=call 83 [.pv Ty.str x2]
 bif ab .bool c0 then
 bif !(aa c0).toBool then
 bF call k x1 x3 x4 x5 (x0.cell 0) (x0.cell 1) (x0.cell 2) (x0.cell 3) (x0.cell 4) (x0.cell 5) (x0.cell 6) (x0.cell 7) (x0.cell 8) (PV.bool true)
 else
 bif !(x0.cell 3).toBool then
 bif !ak (x3.toInt) (0)then
 bF call k x1 x3 x4 x5 (x0.cell 0) (x0.cell 1) (x0.cell 2) (x0.cell 3) (x0.cell 4) (x0.cell 5) (x0.cell 6) (x0.cell 7) (x0.cell 8) (PV.bool true)
 else
 bif !(x0.cell 4).toBool then
 bif !ak (x4.toInt) (0)then
 bF call k x1 x3 x4 x5 (x0.cell 0) (x0.cell 1) (x0.cell 2) (x0.cell 3) (x0.cell 4) (x0.cell 5) (x0.cell 6) (x0.cell 7) (x0.cell 8) (PV.bool true)
 else
 bif !(x0.cell 6).toBool then
 bif !((x6.cell 0).toStr.data.toList==(ByteArray.mk #[]).data.toList&&(ak ((x6.cell 1).toInt) (0)&&(ak ((x6.cell 2).toInt) (0)&&((x6.cell 3).toStr.data.toList==(ByteArray.mk #[]).data.toList&&(x6.cell 4).toStr.data.toList==(ByteArray.mk #[]).data.toList))))then
 bF call k x1 x3 x4 x5 (x0.cell 0) (x0.cell 1) (x0.cell 2) (x0.cell 3) (x0.cell 4) (x0.cell 5) (x0.cell 6) (x0.cell 7) (x0.cell 8) (PV.bool true)
 else
 bif (x0.cell 6).toBool then
 let c1:=call 84 [.pv (.st 52) (PV.agg [x6.cell 0,x6.cell 1,x6.cell 2,x6.cell 3,x6.cell 4])]
 bif ab .bool c1 then
 bif !(aa c1).toBool then
 bF call k x1 x3 x4 x5 (x0.cell 0) (x0.cell 1) (x0.cell 2) (x0.cell 3) (x0.cell 4) (x0.cell 5) (x0.cell 6) (x0.cell 7) (x0.cell 8) (PV.bool true)
 else
 bE call k x1 x3 x4 x5 (x0.cell 0) (x0.cell 1) (x0.cell 2) (x0.cell 3) (x0.cell 4) (x0.cell 5) (x0.cell 6) (x0.cell 7) (x0.cell 8)
 else
 none
 else
 bE call k x1 x3 x4 x5 (x0.cell 0) (x0.cell 1) (x0.cell 2) (x0.cell 3) (x0.cell 4) (x0.cell 5) (x0.cell 6) (x0.cell 7) (x0.cell 8)
 else
 bif (x0.cell 6).toBool then
 let c4:=call 84 [.pv (.st 52) (PV.agg [x6.cell 0,x6.cell 1,x6.cell 2,x6.cell 3,x6.cell 4])]
 bif ab .bool c4 then
 bif !(aa c4).toBool then
 bF call k x1 x3 x4 x5 (x0.cell 0) (x0.cell 1) (x0.cell 2) (x0.cell 3) (x0.cell 4) (x0.cell 5) (x0.cell 6) (x0.cell 7) (x0.cell 8) (PV.bool true)
 else
 bE call k x1 x3 x4 x5 (x0.cell 0) (x0.cell 1) (x0.cell 2) (x0.cell 3) (x0.cell 4) (x0.cell 5) (x0.cell 6) (x0.cell 7) (x0.cell 8)
 else
 none
 else
 bE call k x1 x3 x4 x5 (x0.cell 0) (x0.cell 1) (x0.cell 2) (x0.cell 3) (x0.cell 4) (x0.cell 5) (x0.cell 6) (x0.cell 7) (x0.cell 8)
 else
 bif !(x0.cell 6).toBool then
 bif !((x6.cell 0).toStr.data.toList==(ByteArray.mk #[]).data.toList&&(ak ((x6.cell 1).toInt) (0)&&(ak ((x6.cell 2).toInt) (0)&&((x6.cell 3).toStr.data.toList==(ByteArray.mk #[]).data.toList&&(x6.cell 4).toStr.data.toList==(ByteArray.mk #[]).data.toList))))then
 bF call k x1 x3 x4 x5 (x0.cell 0) (x0.cell 1) (x0.cell 2) (x0.cell 3) (x0.cell 4) (x0.cell 5) (x0.cell 6) (x0.cell 7) (x0.cell 8) (PV.bool true)
 else
 bif (x0.cell 6).toBool then
 let c5:=call 84 [.pv (.st 52) (PV.agg [x6.cell 0,x6.cell 1,x6.cell 2,x6.cell 3,x6.cell 4])]
 bif ab .bool c5 then
 bif !(aa c5).toBool then
 bF call k x1 x3 x4 x5 (x0.cell 0) (x0.cell 1) (x0.cell 2) (x0.cell 3) (x0.cell 4) (x0.cell 5) (x0.cell 6) (x0.cell 7) (x0.cell 8) (PV.bool true)
 else
 bE call k x1 x3 x4 x5 (x0.cell 0) (x0.cell 1) (x0.cell 2) (x0.cell 3) (x0.cell 4) (x0.cell 5) (x0.cell 6) (x0.cell 7) (x0.cell 8)
 else
 none
 else
 bE call k x1 x3 x4 x5 (x0.cell 0) (x0.cell 1) (x0.cell 2) (x0.cell 3) (x0.cell 4) (x0.cell 5) (x0.cell 6) (x0.cell 7) (x0.cell 8)
 else
 bif (x0.cell 6).toBool then
 let c6:=call 84 [.pv (.st 52) (PV.agg [x6.cell 0,x6.cell 1,x6.cell 2,x6.cell 3,x6.cell 4])]
 bif ab .bool c6 then
 bif !(aa c6).toBool then
 bF call k x1 x3 x4 x5 (x0.cell 0) (x0.cell 1) (x0.cell 2) (x0.cell 3) (x0.cell 4) (x0.cell 5) (x0.cell 6) (x0.cell 7) (x0.cell 8) (PV.bool true)
 else
 bE call k x1 x3 x4 x5 (x0.cell 0) (x0.cell 1) (x0.cell 2) (x0.cell 3) (x0.cell 4) (x0.cell 5) (x0.cell 6) (x0.cell 7) (x0.cell 8)
 else
 none
 else
 bE call k x1 x3 x4 x5 (x0.cell 0) (x0.cell 1) (x0.cell 2) (x0.cell 3) (x0.cell 4) (x0.cell 5) (x0.cell 6) (x0.cell 7) (x0.cell 8)
 else
 bif !(x0.cell 4).toBool then
 bif !ak (x4.toInt) (0)then
 bF call k x1 x3 x4 x5 (x0.cell 0) (x0.cell 1) (x0.cell 2) (x0.cell 3) (x0.cell 4) (x0.cell 5) (x0.cell 6) (x0.cell 7) (x0.cell 8) (PV.bool true)
 else
 bif !(x0.cell 6).toBool then
 bif !((x6.cell 0).toStr.data.toList==(ByteArray.mk #[]).data.toList&&(ak ((x6.cell 1).toInt) (0)&&(ak ((x6.cell 2).toInt) (0)&&((x6.cell 3).toStr.data.toList==(ByteArray.mk #[]).data.toList&&(x6.cell 4).toStr.data.toList==(ByteArray.mk #[]).data.toList))))then
 bF call k x1 x3 x4 x5 (x0.cell 0) (x0.cell 1) (x0.cell 2) (x0.cell 3) (x0.cell 4) (x0.cell 5) (x0.cell 6) (x0.cell 7) (x0.cell 8) (PV.bool true)
 else
 bif (x0.cell 6).toBool then
 let c7:=call 84 [.pv (.st 52) (PV.agg [x6.cell 0,x6.cell 1,x6.cell 2,x6.cell 3,x6.cell 4])]
 bif ab .bool c7 then
 bif !(aa c7).toBool then
 bF call k x1 x3 x4 x5 (x0.cell 0) (x0.cell 1) (x0.cell 2) (x0.cell 3) (x0.cell 4) (x0.cell 5) (x0.cell 6) (x0.cell 7) (x0.cell 8) (PV.bool true)
 else
 bE call k x1 x3 x4 x5 (x0.cell 0) (x0.cell 1) (x0.cell 2) (x0.cell 3) (x0.cell 4) (x0.cell 5) (x0.cell 6) (x0.cell 7) (x0.cell 8)
 else
 none
 else
 bE call k x1 x3 x4 x5 (x0.cell 0) (x0.cell 1) (x0.cell 2) (x0.cell 3) (x0.cell 4) (x0.cell 5) (x0.cell 6) (x0.cell 7) (x0.cell 8)
 else
 bif (x0.cell 6).toBool then
 let c8:=call 84 [.pv (.st 52) (PV.agg [x6.cell 0,x6.cell 1,x6.cell 2,x6.cell 3,x6.cell 4])]
 bif ab .bool c8 then
 bif !(aa c8).toBool then
 bF call k x1 x3 x4 x5 (x0.cell 0) (x0.cell 1) (x0.cell 2) (x0.cell 3) (x0.cell 4) (x0.cell 5) (x0.cell 6) (x0.cell 7) (x0.cell 8) (PV.bool true)
 else
 bE call k x1 x3 x4 x5 (x0.cell 0) (x0.cell 1) (x0.cell 2) (x0.cell 3) (x0.cell 4) (x0.cell 5) (x0.cell 6) (x0.cell 7) (x0.cell 8)
 else
 none
 else
 bE call k x1 x3 x4 x5 (x0.cell 0) (x0.cell 1) (x0.cell 2) (x0.cell 3) (x0.cell 4) (x0.cell 5) (x0.cell 6) (x0.cell 7) (x0.cell 8)
 else
 bif !(x0.cell 6).toBool then
 bif !((x6.cell 0).toStr.data.toList==(ByteArray.mk #[]).data.toList&&(ak ((x6.cell 1).toInt) (0)&&(ak ((x6.cell 2).toInt) (0)&&((x6.cell 3).toStr.data.toList==(ByteArray.mk #[]).data.toList&&(x6.cell 4).toStr.data.toList==(ByteArray.mk #[]).data.toList))))then
 bF call k x1 x3 x4 x5 (x0.cell 0) (x0.cell 1) (x0.cell 2) (x0.cell 3) (x0.cell 4) (x0.cell 5) (x0.cell 6) (x0.cell 7) (x0.cell 8) (PV.bool true)
 else
 bif (x0.cell 6).toBool then
 let c9:=call 84 [.pv (.st 52) (PV.agg [x6.cell 0,x6.cell 1,x6.cell 2,x6.cell 3,x6.cell 4])]
 bif ab .bool c9 then
 bif !(aa c9).toBool then
 bF call k x1 x3 x4 x5 (x0.cell 0) (x0.cell 1) (x0.cell 2) (x0.cell 3) (x0.cell 4) (x0.cell 5) (x0.cell 6) (x0.cell 7) (x0.cell 8) (PV.bool true)
 else
 bE call k x1 x3 x4 x5 (x0.cell 0) (x0.cell 1) (x0.cell 2) (x0.cell 3) (x0.cell 4) (x0.cell 5) (x0.cell 6) (x0.cell 7) (x0.cell 8)
 else
 none
 else
 bE call k x1 x3 x4 x5 (x0.cell 0) (x0.cell 1) (x0.cell 2) (x0.cell 3) (x0.cell 4) (x0.cell 5) (x0.cell 6) (x0.cell 7) (x0.cell 8)
 else
 bif (x0.cell 6).toBool then
 let YQ:=call 84 [.pv (.st 52) (PV.agg [x6.cell 0,x6.cell 1,x6.cell 2,x6.cell 3,x6.cell 4])]
 bif ab .bool YQ then
 bif !(aa YQ).toBool then
 bF call k x1 x3 x4 x5 (x0.cell 0) (x0.cell 1) (x0.cell 2) (x0.cell 3) (x0.cell 4) (x0.cell 5) (x0.cell 6) (x0.cell 7) (x0.cell 8) (PV.bool true)
 else
 bE call k x1 x3 x4 x5 (x0.cell 0) (x0.cell 1) (x0.cell 2) (x0.cell 3) (x0.cell 4) (x0.cell 5) (x0.cell 6) (x0.cell 7) (x0.cell 8)
 else
 none
 else
 bE call k x1 x3 x4 x5 (x0.cell 0) (x0.cell 1) (x0.cell 2) (x0.cell 3) (x0.cell 4) (x0.cell 5) (x0.cell 6) (x0.cell 7) (x0.cell 8)
 else
 none
 else
 bif !(x0.cell 3).toBool then
 bif !ak (x3.toInt) (0)then
 bF call k x1 x3 x4 x5 (x0.cell 0) (x0.cell 1) (x0.cell 2) (x0.cell 3) (x0.cell 4) (x0.cell 5) (x0.cell 6) (x0.cell 7) (x0.cell 8) (PV.bool true)
 else
 bif !(x0.cell 4).toBool then
 bif !ak (x4.toInt) (0)then
 bF call k x1 x3 x4 x5 (x0.cell 0) (x0.cell 1) (x0.cell 2) (x0.cell 3) (x0.cell 4) (x0.cell 5) (x0.cell 6) (x0.cell 7) (x0.cell 8) (PV.bool true)
 else
 bif !(x0.cell 6).toBool then
 bif !((x6.cell 0).toStr.data.toList==(ByteArray.mk #[]).data.toList&&(ak ((x6.cell 1).toInt) (0)&&(ak ((x6.cell 2).toInt) (0)&&((x6.cell 3).toStr.data.toList==(ByteArray.mk #[]).data.toList&&(x6.cell 4).toStr.data.toList==(ByteArray.mk #[]).data.toList))))then
 bF call k x1 x3 x4 x5 (x0.cell 0) (x0.cell 1) (x0.cell 2) (x0.cell 3) (x0.cell 4) (x0.cell 5) (x0.cell 6) (x0.cell 7) (x0.cell 8) (PV.bool true)
 else
 bif (x0.cell 6).toBool then
 let YR:=call 84 [.pv (.st 52) (PV.agg [x6.cell 0,x6.cell 1,x6.cell 2,x6.cell 3,x6.cell 4])]
 bif ab .bool YR then
 bif !(aa YR).toBool then
 bF call k x1 x3 x4 x5 (x0.cell 0) (x0.cell 1) (x0.cell 2) (x0.cell 3) (x0.cell 4) (x0.cell 5) (x0.cell 6) (x0.cell 7) (x0.cell 8) (PV.bool true)
 else
 bE call k x1 x3 x4 x5 (x0.cell 0) (x0.cell 1) (x0.cell 2) (x0.cell 3) (x0.cell 4) (x0.cell 5) (x0.cell 6) (x0.cell 7) (x0.cell 8)
 else
 none
 else
 bE call k x1 x3 x4 x5 (x0.cell 0) (x0.cell 1) (x0.cell 2) (x0.cell 3) (x0.cell 4) (x0.cell 5) (x0.cell 6) (x0.cell 7) (x0.cell 8)
 else
 bif (x0.cell 6).toBool then
 let YS:=call 84 [.pv (.st 52) (PV.agg [x6.cell 0,x6.cell 1,x6.cell 2,x6.cell 3,x6.cell 4])]
 bif ab .bool YS then
 bif !(aa YS).toBool then
 bF call k x1 x3 x4 x5 (x0.cell 0) (x0.cell 1) (x0.cell 2) (x0.cell 3) (x0.cell 4) (x0.cell 5) (x0.cell 6) (x0.cell 7) (x0.cell 8) (PV.bool true)
 else
 bE call k x1 x3 x4 x5 (x0.cell 0) (x0.cell 1) (x0.cell 2) (x0.cell 3) (x0.cell 4) (x0.cell 5) (x0.cell 6) (x0.cell 7) (x0.cell 8)
 else
 none
 else
 bE call k x1 x3 x4 x5 (x0.cell 0) (x0.cell 1) (x0.cell 2) (x0.cell 3) (x0.cell 4) (x0.cell 5) (x0.cell 6) (x0.cell 7) (x0.cell 8)
 else
 bif !(x0.cell 6).toBool then
 bif !((x6.cell 0).toStr.data.toList==(ByteArray.mk #[]).data.toList&&(ak ((x6.cell 1).toInt) (0)&&(ak ((x6.cell 2).toInt) (0)&&((x6.cell 3).toStr.data.toList==(ByteArray.mk #[]).data.toList&&(x6.cell 4).toStr.data.toList==(ByteArray.mk #[]).data.toList))))then
 bF call k x1 x3 x4 x5 (x0.cell 0) (x0.cell 1) (x0.cell 2) (x0.cell 3) (x0.cell 4) (x0.cell 5) (x0.cell 6) (x0.cell 7) (x0.cell 8) (PV.bool true)
 else
 bif (x0.cell 6).toBool then
 let YT:=call 84 [.pv (.st 52) (PV.agg [x6.cell 0,x6.cell 1,x6.cell 2,x6.cell 3,x6.cell 4])]
 bif ab .bool YT then
 bif !(aa YT).toBool then
 bF call k x1 x3 x4 x5 (x0.cell 0) (x0.cell 1) (x0.cell 2) (x0.cell 3) (x0.cell 4) (x0.cell 5) (x0.cell 6) (x0.cell 7) (x0.cell 8) (PV.bool true)
 else
 bE call k x1 x3 x4 x5 (x0.cell 0) (x0.cell 1) (x0.cell 2) (x0.cell 3) (x0.cell 4) (x0.cell 5) (x0.cell 6) (x0.cell 7) (x0.cell 8)
 else
 none
 else
 bE call k x1 x3 x4 x5 (x0.cell 0) (x0.cell 1) (x0.cell 2) (x0.cell 3) (x0.cell 4) (x0.cell 5) (x0.cell 6) (x0.cell 7) (x0.cell 8)
 else
 bif (x0.cell 6).toBool then
 let YU:=call 84 [.pv (.st 52) (PV.agg [x6.cell 0,x6.cell 1,x6.cell 2,x6.cell 3,x6.cell 4])]
 bif ab .bool YU then
 bif !(aa YU).toBool then
 bF call k x1 x3 x4 x5 (x0.cell 0) (x0.cell 1) (x0.cell 2) (x0.cell 3) (x0.cell 4) (x0.cell 5) (x0.cell 6) (x0.cell 7) (x0.cell 8) (PV.bool true)
 else
 bE call k x1 x3 x4 x5 (x0.cell 0) (x0.cell 1) (x0.cell 2) (x0.cell 3) (x0.cell 4) (x0.cell 5) (x0.cell 6) (x0.cell 7) (x0.cell 8)
 else
 none
 else
 bE call k x1 x3 x4 x5 (x0.cell 0) (x0.cell 1) (x0.cell 2) (x0.cell 3) (x0.cell 4) (x0.cell 5) (x0.cell 6) (x0.cell 7) (x0.cell 8)
 else
 bif !(x0.cell 4).toBool then
 bif !ak (x4.toInt) (0)then
 bF call k x1 x3 x4 x5 (x0.cell 0) (x0.cell 1) (x0.cell 2) (x0.cell 3) (x0.cell 4) (x0.cell 5) (x0.cell 6) (x0.cell 7) (x0.cell 8) (PV.bool true)
 else
 bif !(x0.cell 6).toBool then
 bif !((x6.cell 0).toStr.data.toList==(ByteArray.mk #[]).data.toList&&(ak ((x6.cell 1).toInt) (0)&&(ak ((x6.cell 2).toInt) (0)&&((x6.cell 3).toStr.data.toList==(ByteArray.mk #[]).data.toList&&(x6.cell 4).toStr.data.toList==(ByteArray.mk #[]).data.toList))))then
 bF call k x1 x3 x4 x5 (x0.cell 0) (x0.cell 1) (x0.cell 2) (x0.cell 3) (x0.cell 4) (x0.cell 5) (x0.cell 6) (x0.cell 7) (x0.cell 8) (PV.bool true)
 else
 bif (x0.cell 6).toBool then
 let YV:=call 84 [.pv (.st 52) (PV.agg [x6.cell 0,x6.cell 1,x6.cell 2,x6.cell 3,x6.cell 4])]
 bif ab .bool YV then
 bif !(aa YV).toBool then
 bF call k x1 x3 x4 x5 (x0.cell 0) (x0.cell 1) (x0.cell 2) (x0.cell 3) (x0.cell 4) (x0.cell 5) (x0.cell 6) (x0.cell 7) (x0.cell 8) (PV.bool true)
 else
 bE call k x1 x3 x4 x5 (x0.cell 0) (x0.cell 1) (x0.cell 2) (x0.cell 3) (x0.cell 4) (x0.cell 5) (x0.cell 6) (x0.cell 7) (x0.cell 8)
 else
 none
 else
 bE call k x1 x3 x4 x5 (x0.cell 0) (x0.cell 1) (x0.cell 2) (x0.cell 3) (x0.cell 4) (x0.cell 5) (x0.cell 6) (x0.cell 7) (x0.cell 8)
 else
 bif (x0.cell 6).toBool then
 let YW:=call 84 [.pv (.st 52) (PV.agg [x6.cell 0,x6.cell 1,x6.cell 2,x6.cell 3,x6.cell 4])]
 bif ab .bool YW then
 bif !(aa YW).toBool then
 bF call k x1 x3 x4 x5 (x0.cell 0) (x0.cell 1) (x0.cell 2) (x0.cell 3) (x0.cell 4) (x0.cell 5) (x0.cell 6) (x0.cell 7) (x0.cell 8) (PV.bool true)
 else
 bE call k x1 x3 x4 x5 (x0.cell 0) (x0.cell 1) (x0.cell 2) (x0.cell 3) (x0.cell 4) (x0.cell 5) (x0.cell 6) (x0.cell 7) (x0.cell 8)
 else
 none
 else
 bE call k x1 x3 x4 x5 (x0.cell 0) (x0.cell 1) (x0.cell 2) (x0.cell 3) (x0.cell 4) (x0.cell 5) (x0.cell 6) (x0.cell 7) (x0.cell 8)
 else
 bif !(x0.cell 6).toBool then
 bif !((x6.cell 0).toStr.data.toList==(ByteArray.mk #[]).data.toList&&(ak ((x6.cell 1).toInt) (0)&&(ak ((x6.cell 2).toInt) (0)&&((x6.cell 3).toStr.data.toList==(ByteArray.mk #[]).data.toList&&(x6.cell 4).toStr.data.toList==(ByteArray.mk #[]).data.toList))))then
 bF call k x1 x3 x4 x5 (x0.cell 0) (x0.cell 1) (x0.cell 2) (x0.cell 3) (x0.cell 4) (x0.cell 5) (x0.cell 6) (x0.cell 7) (x0.cell 8) (PV.bool true)
 else
 bif (x0.cell 6).toBool then
 let YX:=call 84 [.pv (.st 52) (PV.agg [x6.cell 0,x6.cell 1,x6.cell 2,x6.cell 3,x6.cell 4])]
 bif ab .bool YX then
 bif !(aa YX).toBool then
 bF call k x1 x3 x4 x5 (x0.cell 0) (x0.cell 1) (x0.cell 2) (x0.cell 3) (x0.cell 4) (x0.cell 5) (x0.cell 6) (x0.cell 7) (x0.cell 8) (PV.bool true)
 else
 bE call k x1 x3 x4 x5 (x0.cell 0) (x0.cell 1) (x0.cell 2) (x0.cell 3) (x0.cell 4) (x0.cell 5) (x0.cell 6) (x0.cell 7) (x0.cell 8)
 else
 none
 else
 bE call k x1 x3 x4 x5 (x0.cell 0) (x0.cell 1) (x0.cell 2) (x0.cell 3) (x0.cell 4) (x0.cell 5) (x0.cell 6) (x0.cell 7) (x0.cell 8)
 else
 bif (x0.cell 6).toBool then
 let YY:=call 84 [.pv (.st 52) (PV.agg [x6.cell 0,x6.cell 1,x6.cell 2,x6.cell 3,x6.cell 4])]
 bif ab .bool YY then
 bif !(aa YY).toBool then
 bF call k x1 x3 x4 x5 (x0.cell 0) (x0.cell 1) (x0.cell 2) (x0.cell 3) (x0.cell 4) (x0.cell 5) (x0.cell 6) (x0.cell 7) (x0.cell 8) (PV.bool true)
 else
 bE call k x1 x3 x4 x5 (x0.cell 0) (x0.cell 1) (x0.cell 2) (x0.cell 3) (x0.cell 4) (x0.cell 5) (x0.cell 6) (x0.cell 7) (x0.cell 8)
 else
 none
 else
 bE call k x1 x3 x4 x5 (x0.cell 0) (x0.cell 1) (x0.cell 2) (x0.cell 3) (x0.cell 4) (x0.cell 5) (x0.cell 6) (x0.cell 7) (x0.cell 8)
 else
 bif (x0.cell 5).toBool then
 let YZ:=call 83 [.pv Ty.str x2]
 bif ab .bool YZ then
 bif !(aa YZ).toBool then
 bF call k x1 x3 x4 x5 (x0.cell 0) (x0.cell 1) (x0.cell 2) (x0.cell 3) (x0.cell 4) (x0.cell 5) (x0.cell 6) (x0.cell 7) (x0.cell 8) (PV.bool true)
 else
 bif !(x0.cell 3).toBool then
 bif !ak (x3.toInt) (0)then
 bF call k x1 x3 x4 x5 (x0.cell 0) (x0.cell 1) (x0.cell 2) (x0.cell 3) (x0.cell 4) (x0.cell 5) (x0.cell 6) (x0.cell 7) (x0.cell 8) (PV.bool true)
 else
 bif !(x0.cell 4).toBool then
 bif !ak (x4.toInt) (0)then
 bF call k x1 x3 x4 x5 (x0.cell 0) (x0.cell 1) (x0.cell 2) (x0.cell 3) (x0.cell 4) (x0.cell 5) (x0.cell 6) (x0.cell 7) (x0.cell 8) (PV.bool true)
 else
 bif !(x0.cell 6).toBool then
 bif !((x6.cell 0).toStr.data.toList==(ByteArray.mk #[]).data.toList&&(ak ((x6.cell 1).toInt) (0)&&(ak ((x6.cell 2).toInt) (0)&&((x6.cell 3).toStr.data.toList==(ByteArray.mk #[]).data.toList&&(x6.cell 4).toStr.data.toList==(ByteArray.mk #[]).data.toList))))then
 bF call k x1 x3 x4 x5 (x0.cell 0) (x0.cell 1) (x0.cell 2) (x0.cell 3) (x0.cell 4) (x0.cell 5) (x0.cell 6) (x0.cell 7) (x0.cell 8) (PV.bool true)
 else
 bif (x0.cell 6).toBool then
 let Y0:=call 84 [.pv (.st 52) (PV.agg [x6.cell 0,x6.cell 1,x6.cell 2,x6.cell 3,x6.cell 4])]
 bif ab .bool Y0 then
 bif !(aa Y0).toBool then
 bF call k x1 x3 x4 x5 (x0.cell 0) (x0.cell 1) (x0.cell 2) (x0.cell 3) (x0.cell 4) (x0.cell 5) (x0.cell 6) (x0.cell 7) (x0.cell 8) (PV.bool true)
 else
 bE call k x1 x3 x4 x5 (x0.cell 0) (x0.cell 1) (x0.cell 2) (x0.cell 3) (x0.cell 4) (x0.cell 5) (x0.cell 6) (x0.cell 7) (x0.cell 8)
 else
 none
 else
 bE call k x1 x3 x4 x5 (x0.cell 0) (x0.cell 1) (x0.cell 2) (x0.cell 3) (x0.cell 4) (x0.cell 5) (x0.cell 6) (x0.cell 7) (x0.cell 8)
 else
 bif (x0.cell 6).toBool then
 let Y1:=call 84 [.pv (.st 52) (PV.agg [x6.cell 0,x6.cell 1,x6.cell 2,x6.cell 3,x6.cell 4])]
 bif ab .bool Y1 then
 bif !(aa Y1).toBool then
 bF call k x1 x3 x4 x5 (x0.cell 0) (x0.cell 1) (x0.cell 2) (x0.cell 3) (x0.cell 4) (x0.cell 5) (x0.cell 6) (x0.cell 7) (x0.cell 8) (PV.bool true)
 else
 bE call k x1 x3 x4 x5 (x0.cell 0) (x0.cell 1) (x0.cell 2) (x0.cell 3) (x0.cell 4) (x0.cell 5) (x0.cell 6) (x0.cell 7) (x0.cell 8)
 else
 none
 else
 bE call k x1 x3 x4 x5 (x0.cell 0) (x0.cell 1) (x0.cell 2) (x0.cell 3) (x0.cell 4) (x0.cell 5) (x0.cell 6) (x0.cell 7) (x0.cell 8)
 else
 bif !(x0.cell 6).toBool then
 bif !((x6.cell 0).toStr.data.toList==(ByteArray.mk #[]).data.toList&&(ak ((x6.cell 1).toInt) (0)&&(ak ((x6.cell 2).toInt) (0)&&((x6.cell 3).toStr.data.toList==(ByteArray.mk #[]).data.toList&&(x6.cell 4).toStr.data.toList==(ByteArray.mk #[]).data.toList))))then
 bF call k x1 x3 x4 x5 (x0.cell 0) (x0.cell 1) (x0.cell 2) (x0.cell 3) (x0.cell 4) (x0.cell 5) (x0.cell 6) (x0.cell 7) (x0.cell 8) (PV.bool true)
 else
 bif (x0.cell 6).toBool then
 let Y2:=call 84 [.pv (.st 52) (PV.agg [x6.cell 0,x6.cell 1,x6.cell 2,x6.cell 3,x6.cell 4])]
 bif ab .bool Y2 then
 bif !(aa Y2).toBool then
 bF call k x1 x3 x4 x5 (x0.cell 0) (x0.cell 1) (x0.cell 2) (x0.cell 3) (x0.cell 4) (x0.cell 5) (x0.cell 6) (x0.cell 7) (x0.cell 8) (PV.bool true)
 else
 bE call k x1 x3 x4 x5 (x0.cell 0) (x0.cell 1) (x0.cell 2) (x0.cell 3) (x0.cell 4) (x0.cell 5) (x0.cell 6) (x0.cell 7) (x0.cell 8)
 else
 none
 else
 bE call k x1 x3 x4 x5 (x0.cell 0) (x0.cell 1) (x0.cell 2) (x0.cell 3) (x0.cell 4) (x0.cell 5) (x0.cell 6) (x0.cell 7) (x0.cell 8)
 else
 bif (x0.cell 6).toBool then
 let Y3:=call 84 [.pv (.st 52) (PV.agg [x6.cell 0,x6.cell 1,x6.cell 2,x6.cell 3,x6.cell 4])]
 bif ab .bool Y3 then
 bif !(aa Y3).toBool then
 bF call k x1 x3 x4 x5 (x0.cell 0) (x0.cell 1) (x0.cell 2) (x0.cell 3) (x0.cell 4) (x0.cell 5) (x0.cell 6) (x0.cell 7) (x0.cell 8) (PV.bool true)
 else
 bE call k x1 x3 x4 x5 (x0.cell 0) (x0.cell 1) (x0.cell 2) (x0.cell 3) (x0.cell 4) (x0.cell 5) (x0.cell 6) (x0.cell 7) (x0.cell 8)
 else
 none
 else
 bE call k x1 x3 x4 x5 (x0.cell 0) (x0.cell 1) (x0.cell 2) (x0.cell 3) (x0.cell 4) (x0.cell 5) (x0.cell 6) (x0.cell 7) (x0.cell 8)
 else
 bif !(x0.cell 4).toBool then
 bif !ak (x4.toInt) (0)then
 bF call k x1 x3 x4 x5 (x0.cell 0) (x0.cell 1) (x0.cell 2) (x0.cell 3) (x0.cell 4) (x0.cell 5) (x0.cell 6) (x0.cell 7) (x0.cell 8) (PV.bool true)
 else
 bif !(x0.cell 6).toBool then
 bif !((x6.cell 0).toStr.data.toList==(ByteArray.mk #[]).data.toList&&(ak ((x6.cell 1).toInt) (0)&&(ak ((x6.cell 2).toInt) (0)&&((x6.cell 3).toStr.data.toList==(ByteArray.mk #[]).data.toList&&(x6.cell 4).toStr.data.toList==(ByteArray.mk #[]).data.toList))))then
 bF call k x1 x3 x4 x5 (x0.cell 0) (x0.cell 1) (x0.cell 2) (x0.cell 3) (x0.cell 4) (x0.cell 5) (x0.cell 6) (x0.cell 7) (x0.cell 8) (PV.bool true)
 else
 bif (x0.cell 6).toBool then
 let Y4:=call 84 [.pv (.st 52) (PV.agg [x6.cell 0,x6.cell 1,x6.cell 2,x6.cell 3,x6.cell 4])]
 bif ab .bool Y4 then
 bif !(aa Y4).toBool then
 bF call k x1 x3 x4 x5 (x0.cell 0) (x0.cell 1) (x0.cell 2) (x0.cell 3) (x0.cell 4) (x0.cell 5) (x0.cell 6) (x0.cell 7) (x0.cell 8) (PV.bool true)
 else
 bE call k x1 x3 x4 x5 (x0.cell 0) (x0.cell 1) (x0.cell 2) (x0.cell 3) (x0.cell 4) (x0.cell 5) (x0.cell 6) (x0.cell 7) (x0.cell 8)
 else
 none
 else
 bE call k x1 x3 x4 x5 (x0.cell 0) (x0.cell 1) (x0.cell 2) (x0.cell 3) (x0.cell 4) (x0.cell 5) (x0.cell 6) (x0.cell 7) (x0.cell 8)
 else
 bif (x0.cell 6).toBool then
 let Y5:=call 84 [.pv (.st 52) (PV.agg [x6.cell 0,x6.cell 1,x6.cell 2,x6.cell 3,x6.cell 4])]
 bif ab .bool Y5 then
 bif !(aa Y5).toBool then
 bF call k x1 x3 x4 x5 (x0.cell 0) (x0.cell 1) (x0.cell 2) (x0.cell 3) (x0.cell 4) (x0.cell 5) (x0.cell 6) (x0.cell 7) (x0.cell 8) (PV.bool true)
 else
 bE call k x1 x3 x4 x5 (x0.cell 0) (x0.cell 1) (x0.cell 2) (x0.cell 3) (x0.cell 4) (x0.cell 5) (x0.cell 6) (x0.cell 7) (x0.cell 8)
 else
 none
 else
 bE call k x1 x3 x4 x5 (x0.cell 0) (x0.cell 1) (x0.cell 2) (x0.cell 3) (x0.cell 4) (x0.cell 5) (x0.cell 6) (x0.cell 7) (x0.cell 8)
 else
 bif !(x0.cell 6).toBool then
 bif !((x6.cell 0).toStr.data.toList==(ByteArray.mk #[]).data.toList&&(ak ((x6.cell 1).toInt) (0)&&(ak ((x6.cell 2).toInt) (0)&&((x6.cell 3).toStr.data.toList==(ByteArray.mk #[]).data.toList&&(x6.cell 4).toStr.data.toList==(ByteArray.mk #[]).data.toList))))then
 bF call k x1 x3 x4 x5 (x0.cell 0) (x0.cell 1) (x0.cell 2) (x0.cell 3) (x0.cell 4) (x0.cell 5) (x0.cell 6) (x0.cell 7) (x0.cell 8) (PV.bool true)
 else
 bif (x0.cell 6).toBool then
 let Y6:=call 84 [.pv (.st 52) (PV.agg [x6.cell 0,x6.cell 1,x6.cell 2,x6.cell 3,x6.cell 4])]
 bif ab .bool Y6 then
 bif !(aa Y6).toBool then
 bF call k x1 x3 x4 x5 (x0.cell 0) (x0.cell 1) (x0.cell 2) (x0.cell 3) (x0.cell 4) (x0.cell 5) (x0.cell 6) (x0.cell 7) (x0.cell 8) (PV.bool true)
 else
 bE call k x1 x3 x4 x5 (x0.cell 0) (x0.cell 1) (x0.cell 2) (x0.cell 3) (x0.cell 4) (x0.cell 5) (x0.cell 6) (x0.cell 7) (x0.cell 8)
 else
 none
 else
 bE call k x1 x3 x4 x5 (x0.cell 0) (x0.cell 1) (x0.cell 2) (x0.cell 3) (x0.cell 4) (x0.cell 5) (x0.cell 6) (x0.cell 7) (x0.cell 8)
 else
 bif (x0.cell 6).toBool then
 let U9:=call 84 [.pv (.st 52) (PV.agg [x6.cell 0,x6.cell 1,x6.cell 2,x6.cell 3,x6.cell 4])]
 bif ab .bool U9 then
 bif !(aa U9).toBool then
 bF call k x1 x3 x4 x5 (x0.cell 0) (x0.cell 1) (x0.cell 2) (x0.cell 3) (x0.cell 4) (x0.cell 5) (x0.cell 6) (x0.cell 7) (x0.cell 8) (PV.bool true)
 else
 bE call k x1 x3 x4 x5 (x0.cell 0) (x0.cell 1) (x0.cell 2) (x0.cell 3) (x0.cell 4) (x0.cell 5) (x0.cell 6) (x0.cell 7) (x0.cell 8)
 else
 none
 else
 bE call k x1 x3 x4 x5 (x0.cell 0) (x0.cell 1) (x0.cell 2) (x0.cell 3) (x0.cell 4) (x0.cell 5) (x0.cell 6) (x0.cell 7) (x0.cell 8)
 else
 none
 else
 bif !(x0.cell 3).toBool then
 bif !ak (x3.toInt) (0)then
 bF call k x1 x3 x4 x5 (x0.cell 0) (x0.cell 1) (x0.cell 2) (x0.cell 3) (x0.cell 4) (x0.cell 5) (x0.cell 6) (x0.cell 7) (x0.cell 8) (PV.bool true)
 else
 bif !(x0.cell 4).toBool then
 bif !ak (x4.toInt) (0)then
 bF call k x1 x3 x4 x5 (x0.cell 0) (x0.cell 1) (x0.cell 2) (x0.cell 3) (x0.cell 4) (x0.cell 5) (x0.cell 6) (x0.cell 7) (x0.cell 8) (PV.bool true)
 else
 bif !(x0.cell 6).toBool then
 bif !((x6.cell 0).toStr.data.toList==(ByteArray.mk #[]).data.toList&&(ak ((x6.cell 1).toInt) (0)&&(ak ((x6.cell 2).toInt) (0)&&((x6.cell 3).toStr.data.toList==(ByteArray.mk #[]).data.toList&&(x6.cell 4).toStr.data.toList==(ByteArray.mk #[]).data.toList))))then
 bF call k x1 x3 x4 x5 (x0.cell 0) (x0.cell 1) (x0.cell 2) (x0.cell 3) (x0.cell 4) (x0.cell 5) (x0.cell 6) (x0.cell 7) (x0.cell 8) (PV.bool true)
 else
 bif (x0.cell 6).toBool then
 let Va:=call 84 [.pv (.st 52) (PV.agg [x6.cell 0,x6.cell 1,x6.cell 2,x6.cell 3,x6.cell 4])]
 bif ab .bool Va then
 bif !(aa Va).toBool then
 bF call k x1 x3 x4 x5 (x0.cell 0) (x0.cell 1) (x0.cell 2) (x0.cell 3) (x0.cell 4) (x0.cell 5) (x0.cell 6) (x0.cell 7) (x0.cell 8) (PV.bool true)
 else
 bE call k x1 x3 x4 x5 (x0.cell 0) (x0.cell 1) (x0.cell 2) (x0.cell 3) (x0.cell 4) (x0.cell 5) (x0.cell 6) (x0.cell 7) (x0.cell 8)
 else
 none
 else
 bE call k x1 x3 x4 x5 (x0.cell 0) (x0.cell 1) (x0.cell 2) (x0.cell 3) (x0.cell 4) (x0.cell 5) (x0.cell 6) (x0.cell 7) (x0.cell 8)
 else
 bif (x0.cell 6).toBool then
 let Y7:=call 84 [.pv (.st 52) (PV.agg [x6.cell 0,x6.cell 1,x6.cell 2,x6.cell 3,x6.cell 4])]
 bif ab .bool Y7 then
 bif !(aa Y7).toBool then
 bF call k x1 x3 x4 x5 (x0.cell 0) (x0.cell 1) (x0.cell 2) (x0.cell 3) (x0.cell 4) (x0.cell 5) (x0.cell 6) (x0.cell 7) (x0.cell 8) (PV.bool true)
 else
 bE call k x1 x3 x4 x5 (x0.cell 0) (x0.cell 1) (x0.cell 2) (x0.cell 3) (x0.cell 4) (x0.cell 5) (x0.cell 6) (x0.cell 7) (x0.cell 8)
 else
 none
 else
 bE call k x1 x3 x4 x5 (x0.cell 0) (x0.cell 1) (x0.cell 2) (x0.cell 3) (x0.cell 4) (x0.cell 5) (x0.cell 6) (x0.cell 7) (x0.cell 8)
 else
 bif !(x0.cell 6).toBool then
 bif !((x6.cell 0).toStr.data.toList==(ByteArray.mk #[]).data.toList&&(ak ((x6.cell 1).toInt) (0)&&(ak ((x6.cell 2).toInt) (0)&&((x6.cell 3).toStr.data.toList==(ByteArray.mk #[]).data.toList&&(x6.cell 4).toStr.data.toList==(ByteArray.mk #[]).data.toList))))then
 bF call k x1 x3 x4 x5 (x0.cell 0) (x0.cell 1) (x0.cell 2) (x0.cell 3) (x0.cell 4) (x0.cell 5) (x0.cell 6) (x0.cell 7) (x0.cell 8) (PV.bool true)
 else
 bif (x0.cell 6).toBool then
 let Vb:=call 84 [.pv (.st 52) (PV.agg [x6.cell 0,x6.cell 1,x6.cell 2,x6.cell 3,x6.cell 4])]
 bif ab .bool Vb then
 bif !(aa Vb).toBool then
 bF call k x1 x3 x4 x5 (x0.cell 0) (x0.cell 1) (x0.cell 2) (x0.cell 3) (x0.cell 4) (x0.cell 5) (x0.cell 6) (x0.cell 7) (x0.cell 8) (PV.bool true)
 else
 bE call k x1 x3 x4 x5 (x0.cell 0) (x0.cell 1) (x0.cell 2) (x0.cell 3) (x0.cell 4) (x0.cell 5) (x0.cell 6) (x0.cell 7) (x0.cell 8)
 else
 none
 else
 bE call k x1 x3 x4 x5 (x0.cell 0) (x0.cell 1) (x0.cell 2) (x0.cell 3) (x0.cell 4) (x0.cell 5) (x0.cell 6) (x0.cell 7) (x0.cell 8)
 else
 bif (x0.cell 6).toBool then
 let Vc:=call 84 [.pv (.st 52) (PV.agg [x6.cell 0,x6.cell 1,x6.cell 2,x6.cell 3,x6.cell 4])]
 bif ab .bool Vc then
 bif !(aa Vc).toBool then
 bF call k x1 x3 x4 x5 (x0.cell 0) (x0.cell 1) (x0.cell 2) (x0.cell 3) (x0.cell 4) (x0.cell 5) (x0.cell 6) (x0.cell 7) (x0.cell 8) (PV.bool true)
 else
 bE call k x1 x3 x4 x5 (x0.cell 0) (x0.cell 1) (x0.cell 2) (x0.cell 3) (x0.cell 4) (x0.cell 5) (x0.cell 6) (x0.cell 7) (x0.cell 8)
 else
 none
 else
 bE call k x1 x3 x4 x5 (x0.cell 0) (x0.cell 1) (x0.cell 2) (x0.cell 3) (x0.cell 4) (x0.cell 5) (x0.cell 6) (x0.cell 7) (x0.cell 8)
 else
 bif !(x0.cell 4).toBool then
 bif !ak (x4.toInt) (0)then
 bF call k x1 x3 x4 x5 (x0.cell 0) (x0.cell 1) (x0.cell 2) (x0.cell 3) (x0.cell 4) (x0.cell 5) (x0.cell 6) (x0.cell 7) (x0.cell 8) (PV.bool true)
 else
 bif !(x0.cell 6).toBool then
 bif !((x6.cell 0).toStr.data.toList==(ByteArray.mk #[]).data.toList&&(ak ((x6.cell 1).toInt) (0)&&(ak ((x6.cell 2).toInt) (0)&&((x6.cell 3).toStr.data.toList==(ByteArray.mk #[]).data.toList&&(x6.cell 4).toStr.data.toList==(ByteArray.mk #[]).data.toList))))then
 bF call k x1 x3 x4 x5 (x0.cell 0) (x0.cell 1) (x0.cell 2) (x0.cell 3) (x0.cell 4) (x0.cell 5) (x0.cell 6) (x0.cell 7) (x0.cell 8) (PV.bool true)
 else
 bif (x0.cell 6).toBool then
 let Y8:=call 84 [.pv (.st 52) (PV.agg [x6.cell 0,x6.cell 1,x6.cell 2,x6.cell 3,x6.cell 4])]
 bif ab .bool Y8 then
 bif !(aa Y8).toBool then
 bF call k x1 x3 x4 x5 (x0.cell 0) (x0.cell 1) (x0.cell 2) (x0.cell 3) (x0.cell 4) (x0.cell 5) (x0.cell 6) (x0.cell 7) (x0.cell 8) (PV.bool true)
 else
 bE call k x1 x3 x4 x5 (x0.cell 0) (x0.cell 1) (x0.cell 2) (x0.cell 3) (x0.cell 4) (x0.cell 5) (x0.cell 6) (x0.cell 7) (x0.cell 8)
 else
 none
 else
 bE call k x1 x3 x4 x5 (x0.cell 0) (x0.cell 1) (x0.cell 2) (x0.cell 3) (x0.cell 4) (x0.cell 5) (x0.cell 6) (x0.cell 7) (x0.cell 8)
 else
 bif (x0.cell 6).toBool then
 let Vd:=call 84 [.pv (.st 52) (PV.agg [x6.cell 0,x6.cell 1,x6.cell 2,x6.cell 3,x6.cell 4])]
 bif ab .bool Vd then
 bif !(aa Vd).toBool then
 bF call k x1 x3 x4 x5 (x0.cell 0) (x0.cell 1) (x0.cell 2) (x0.cell 3) (x0.cell 4) (x0.cell 5) (x0.cell 6) (x0.cell 7) (x0.cell 8) (PV.bool true)
 else
 bE call k x1 x3 x4 x5 (x0.cell 0) (x0.cell 1) (x0.cell 2) (x0.cell 3) (x0.cell 4) (x0.cell 5) (x0.cell 6) (x0.cell 7) (x0.cell 8)
 else
 none
 else
 bE call k x1 x3 x4 x5 (x0.cell 0) (x0.cell 1) (x0.cell 2) (x0.cell 3) (x0.cell 4) (x0.cell 5) (x0.cell 6) (x0.cell 7) (x0.cell 8)
 else
 bif !(x0.cell 6).toBool then
 bif !((x6.cell 0).toStr.data.toList==(ByteArray.mk #[]).data.toList&&(ak ((x6.cell 1).toInt) (0)&&(ak ((x6.cell 2).toInt) (0)&&((x6.cell 3).toStr.data.toList==(ByteArray.mk #[]).data.toList&&(x6.cell 4).toStr.data.toList==(ByteArray.mk #[]).data.toList))))then
 bF call k x1 x3 x4 x5 (x0.cell 0) (x0.cell 1) (x0.cell 2) (x0.cell 3) (x0.cell 4) (x0.cell 5) (x0.cell 6) (x0.cell 7) (x0.cell 8) (PV.bool true)
 else
 bif (x0.cell 6).toBool then
 let Y9:=call 84 [.pv (.st 52) (PV.agg [x6.cell 0,x6.cell 1,x6.cell 2,x6.cell 3,x6.cell 4])]
 bif ab .bool Y9 then
 bif !(aa Y9).toBool then
 bF call k x1 x3 x4 x5 (x0.cell 0) (x0.cell 1) (x0.cell 2) (x0.cell 3) (x0.cell 4) (x0.cell 5) (x0.cell 6) (x0.cell 7) (x0.cell 8) (PV.bool true)
 else
 bE call k x1 x3 x4 x5 (x0.cell 0) (x0.cell 1) (x0.cell 2) (x0.cell 3) (x0.cell 4) (x0.cell 5) (x0.cell 6) (x0.cell 7) (x0.cell 8)
 else
 none
 else
 bE call k x1 x3 x4 x5 (x0.cell 0) (x0.cell 1) (x0.cell 2) (x0.cell 3) (x0.cell 4) (x0.cell 5) (x0.cell 6) (x0.cell 7) (x0.cell 8)
 else
 bif (x0.cell 6).toBool then
 let Za:=call 84 [.pv (.st 52) (PV.agg [x6.cell 0,x6.cell 1,x6.cell 2,x6.cell 3,x6.cell 4])]
 bif ab .bool Za then
 bif !(aa Za).toBool then
 bF call k x1 x3 x4 x5 (x0.cell 0) (x0.cell 1) (x0.cell 2) (x0.cell 3) (x0.cell 4) (x0.cell 5) (x0.cell 6) (x0.cell 7) (x0.cell 8) (PV.bool true)
 else
 bE call k x1 x3 x4 x5 (x0.cell 0) (x0.cell 1) (x0.cell 2) (x0.cell 3) (x0.cell 4) (x0.cell 5) (x0.cell 6) (x0.cell 7) (x0.cell 8)
 else
 none
 else
 bE call k x1 x3 x4 x5 (x0.cell 0) (x0.cell 1) (x0.cell 2) (x0.cell 3) (x0.cell 4) (x0.cell 5) (x0.cell 6) (x0.cell 7) (x0.cell 8):=by rw[aC];kernel_rfl
end Go.V
namespace Go.V
open Go.Proofs
variable (call:aw) (k m1 m2 m3 n:Nat) (x0 x1 x2 x3 x4 x5 x6 x7 x8 x9:PV) (v0:PV) (w0:List PV) (u0:Nat) (v1:PV) (w1:List PV) (u1:Nat) (v2:PV) (w2:List PV) (u2:Nat) (v3:PV) (w3:List PV) (u3:Nat) (v4:PV) (w4:List PV) (u4:Nat) (v5:PV) (w5:List PV) (u5:Nat) (v6:PV) (w6:List PV) (u6:Nat) (v7:PV) (w7:List PV) (u7:Nat) (v8:PV) (w8:List PV) (u8:Nat) (v9:PV) (w9:List PV) (u9:Nat) (v10:PV) (w10:List PV) (u10:Nat) (v11:PV) (w11:List PV) (u11:Nat) (v12:PV) (w12:List PV) (u12:Nat) (v13:PV) (w13:List PV) (u13:Nat) (v14:PV) (w14:List PV) (u14:Nat) (v15:PV) (w15:List PV) (u15:Nat) (v16:PV) (w16:List PV) (u16:Nat) (v17:PV) (w17:List PV) (u17:Nat) (v18:PV) (w18:List PV) (u18:Nat) (v19:PV) (w19:List PV) (u19:Nat) (v20:PV) (w20:List PV) (u20:Nat) (v21:PV) (w21:List PV) (u21:Nat) (v22:PV) (w22:List PV) (u22:Nat) (v23:PV) (w23:List PV) (u23:Nat) (v24:PV) (w24:List PV) (u24:Nat) (v25:PV) (w25:List PV) (u25:Nat) (v26:PV) (w26:List PV) (u26:Nat) (v27:PV) (w27:List PV) (u27:Nat) (v28:PV) (w28:List PV) (u28:Nat) (v29:PV) (w29:List PV) (u29:Nat) (v30:PV) (w30:List PV) (u30:Nat) (v31:PV) (w31:List PV) (u31:Nat) (v32:PV) (w32:List PV) (u32:Nat) (v33:PV) (w33:List PV) (u33:Nat) (v34:PV) (w34:List PV) (u34:Nat) (v35:PV) (w35:List PV) (u35:Nat) (v36:PV) (w36:List PV) (u36:Nat) (v37:PV) (w37:List PV) (u37:Nat) (v38:PV) (w38:List PV) (u38:Nat) (v39:PV) (w39:List PV) (u39:Nat) (v40:PV) (w40:List PV) (u40:Nat) (v41:PV) (w41:List PV) (u41:Nat) (v42:PV) (w42:List PV) (u42:Nat) (v43:PV) (w43:List PV) (u43:Nat) (v44:PV) (w44:List PV) (u44:Nat) (v45:PV) (w45:List PV) (u45:Nat) (v46:PV) (w46:List PV) (u46:Nat) (v47:PV) (w47:List PV) (u47:Nat) (v48:PV) (w48:List PV) (u48:Nat) (v49:PV) (w49:List PV) (u49:Nat) (v50:PV) (w50:List PV) (u50:Nat) (v51:PV) (w51:List PV) (u51:Nat) (v52:PV) (w52:List PV) (u52:Nat) (v53:PV) (w53:List PV) (u53:Nat) (v54:PV) (w54:List PV) (u54:Nat) (v55:PV) (w55:List PV) (u55:Nat) (v56:PV) (w56:List PV) (u56:Nat) (v57:PV) (w57:List PV) (u57:Nat) (v58:PV) (w58:List PV) (u58:Nat) (v59:PV) (w59:List PV) (u59:Nat)
noncomputable def vG:R:=jn call k 48 2 [.b,.a,.b,.x,.a] (dd::oI v0:: .al 275 []:: .o (.box 25 [.pv (.int .i64) v1, .pv (.sl 55) v2, .pv (.sl 3) v3])::ds 41 (oB v4::ds 229 ([AV.o (.box 94 [.arr 55 w5, .arr 9 w6])])))
noncomputable def B5:R:=jn call k 48 7 [.b,.b,.a,.b,.aD,.lp n,.b,.b,.a,.aD,.b,.b,.x,.a] (dd::oI v0:: .al 275 []:: .o (.box 25 [.pv (.int .i64) v1, .pv (.sl 55) v2, .pv (.sl 3) v3])::ds 42 (AV.ptr 3 [] 2::oL 3 v4::oI v5::oI v6::ds 20 (oB v7::ds 204 ([AV.o (.box 94 [.arr 55 w8, .arr 9 w9])]))))
noncomputable def vH:R:=jn call k 48 21 [.b,.b,.b,.a,.b,.aD,.lp m1,.b,.b,.a,.aD,.b,.b,.b,.a,.b,.aD,.lp n,.b,.b,.b] (dd::oI v0:: .al 275 []:: .o (.box 25 [.pv (.int .i64) v1, .pv (.sl 55) v2, .pv (.sl 3) v3])::ds 6 (.o (.box 55 [.pv Ty.str v4, .pv Ty.str v5, .pv (.int .i64) v6, .pv (.int .i64) v7, .pv (.sl 128) v8, .pv Ty.str v9, .pv (.int .i64) v10, .pv (.int .i64) v11, .pv Ty.str v12, .pv Ty.str v13, .pv (.sl 3) v14, .pv (.sl 25) v15])::dd::oI v16::oI v17::ds 58 (AV.ptr 3 [] 1::oL 55 v18::oI v19::oI v20::ds 17 (AV.ptr 10 [] 10::oL 3 v21::oI v22::oI v23::ds 178 ([AV.o (.box 94 [.arr 55 w24, .arr 9 w25])])))))
noncomputable def qk:R:=jn call k 48 20 [.b,.b,.b,.a,.b,.aD,.lp m1,.b,.b,.a,.aD,.b,.b,.b,.a,.b,.aD,.lp n,.b,.b,.a,.aD,.b,.aD,.b,.y,.b,.x,.a] (dd::oI v0:: .al 275 []:: .o (.box 25 [.pv (.int .i64) v1, .pv (.sl 55) v2, .pv (.sl 3) v3])::ds 6 (.o (.box 55 [.pv Ty.str v4, .pv Ty.str v5, .pv (.int .i64) v6, .pv (.int .i64) v7, .pv (.sl 128) v8, .pv Ty.str v9, .pv (.int .i64) v10, .pv (.int .i64) v11, .pv Ty.str v12, .pv Ty.str v13, .pv (.sl 3) v14, .pv (.sl 25) v15])::dd::oI v16::oI v17::ds 58 (AV.ptr 3 [] 1::oL 55 v18::oI v19::oI v20::ds 17 (AV.ptr 10 [] 10::oL 3 v21::oI v22::oI v23::ds 17 (oB v24::ds 160 ([AV.o (.box 94 [.arr 55 w25, .arr 9 w26])]))))))
noncomputable def zI:R:=jn call k 48 19 [.b,.b,.b,.a,.b,.aD,.lp m1,.b,.b,.a,.aD,.b,.b,.b,.a,.b,.aD,.lp n,.b,.b,.a,.aD,.b,.aD,.b,.y,.a] (dd::oI v0:: .al 275 []:: .o (.box 25 [.pv (.int .i64) v1, .pv (.sl 55) v2, .pv (.sl 3) v3])::ds 6 (.o (.box 55 [.pv Ty.str v4, .pv Ty.str v5, .pv (.int .i64) v6, .pv (.int .i64) v7, .pv (.sl 128) v8, .pv Ty.str v9, .pv (.int .i64) v10, .pv (.int .i64) v11, .pv Ty.str v12, .pv Ty.str v13, .pv (.sl 3) v14, .pv (.sl 25) v15])::dd::oI v16::oI v17::dd::dd::oI v18::ds 55 (AV.ptr 3 [] 1::oL 55 v19::oI v20::oI v21::ds 17 (AV.ptr 10 [] 10::oL 3 v22::oI v23::oI v24::ds 4 (oB v25::ds 173 ([AV.o (.box 94 [.arr 55 w26, .arr 9 w27])]))))))
noncomputable def zJ:R:=jn call k 48 25 [.b,.b,.b,.a,.b,.aD,.lp n,.b,.b,.a,.aD,.b,.b,.b,.b,.b,.aD,.b,.x,.b,.x,.a] (dd::oI v0:: .al 275 []:: .o (.box 25 [.pv (.int .i64) v1, .pv (.sl 55) v2, .pv (.sl 3) v3])::ds 68 (AV.ptr 3 [] 1::oL 55 v4::oI v5::oI v6::ds 75 (oB v7::ds 123 ([AV.o (.box 94 [.arr 55 w8, .arr 9 w9])]))))
noncomputable def oP:R:=jn call k 48 49 [.b,.b,.b,.a,.b,.aD,.lp n,.b,.b,.b] (dd::oI v0:: .al 275 []:: .o (.box 25 [.pv (.int .i64) v1, .pv (.sl 55) v2, .pv (.sl 3) v3])::ds 68 (AV.ptr 3 [] 1::oL 55 v4::oI v5::oI v6::ds 199 ([AV.o (.box 94 [.arr 55 w7, .arr 9 w8])])))
noncomputable def ql:R:=jn call k 48 29 [.b,.b,.b,.a,.b,.aD,.lp n,.b,.b,.a,.aD,.b,.b,.b,.b,.b,.aD,.b,.y,.b,.x,.b,.b,.x,.a] (dd::oI v0:: .al 275 []:: .o (.box 25 [.pv (.int .i64) v1, .pv (.sl 55) v2, .pv (.sl 3) v3])::ds 68 (AV.ptr 3 [] 1::oL 55 v4::oI v5::oI v6::ds 105 (oB v7::ds 93 ([AV.o (.box 94 [.arr 55 w8, .arr 9 w9])]))))
noncomputable def zK:R:=jn call k 48 32 [.b,.b,.b,.a,.b,.aD,.lp n,.b,.b,.a,.aD,.b,.b,.b,.b,.b,.aD,.b,.y,.b,.y,.b,.x,.b,.x,.a] (dd::oI v0:: .al 275 []:: .o (.box 25 [.pv (.int .i64) v1, .pv (.sl 55) v2, .pv (.sl 3) v3])::ds 68 (AV.ptr 3 [] 1::oL 55 v4::oI v5::oI v6::ds 128 (oB v7::ds 70 ([AV.o (.box 94 [.arr 55 w8, .arr 9 w9])]))))
noncomputable def zL:R:=jn call k 48 39 [.b,.b,.b,.a,.b,.aD,.lp m1,.b,.b,.a,.aD,.b,.b,.b,.b,.b,.aD,.b,.y,.b,.y,.b,.y,.b,.x,.a,.b,.aD,.lp n,.b,.b,.b] (dd::oI v0:: .al 275 []:: .o (.box 25 [.pv (.int .i64) v1, .pv (.sl 55) v2, .pv (.sl 3) v3])::ds 6 (.o (.box 55 [.pv Ty.str v4, .pv Ty.str v5, .pv (.int .i64) v6, .pv (.int .i64) v7, .pv (.sl 128) v8, .pv Ty.str v9, .pv (.int .i64) v10, .pv (.int .i64) v11, .pv Ty.str v12, .pv Ty.str v13, .pv (.sl 3) v14, .pv (.sl 25) v15])::ds 61 (AV.ptr 3 [] 1::oL 55 v16::oI v17::oI v18::ds 131 (AV.al 275 []:: .al 275 []:: .ptr 275 [] 0:: .al 275 [0]::oI v19::oI v20::ds 62 ([AV.o (.box 94 [.arr 55 w21, .arr 9 w22])])))))
noncomputable def vI:R:=lq call k 48 n [.b,.b,.b,.a,.b,.aD,.lp m1,.b,.b,.a,.aD,.b,.b,.b,.b,.b,.aD,.b,.y,.b,.y,.b,.y,.b,.x,.a,.b,.aD] (dd::oI v0:: .al 275 []:: .o (.box 25 [.pv (.int .i64) v1, .pv (.sl 55) v2, .pv (.sl 3) v3])::ds 6 (.o (.box 55 [.pv Ty.str v4, .pv Ty.str v5, .pv (.int .i64) v6, .pv (.int .i64) v7, .pv (.sl 128) v8, .pv Ty.str v9, .pv (.int .i64) v10, .pv (.int .i64) v11, .pv Ty.str v12, .pv Ty.str v13, .pv (.sl 3) v14, .pv (.sl 25) v15])::ds 61 (AV.ptr 3 [] 1::oL 55 v16::oI v17::oI v18::ds 131 (AV.al 275 []:: .al 275 []:: .ptr 275 [] 0:: .al 275 [0]::oI v19::oI v20::ds 62 ([AV.o (.box 94 [.arr 55 w21, .arr 9 w22])])))))
noncomputable def vJ:R:=lq call k 48 n [.b,.b,.b,.a,.b,.aD,.lp m1,.b,.b,.a,.aD,.b,.b,.b,.b,.b,.aD,.b,.y,.b,.y,.b,.y,.b,.y,.b,.x,.a,.b,.aD] (dd::oI v0:: .al 275 []:: .o (.box 25 [.pv (.int .i64) v1, .pv (.sl 55) v2, .pv (.sl 3) v3])::ds 6 (.o (.box 55 [.pv Ty.str v4, .pv Ty.str v5, .pv (.int .i64) v6, .pv (.int .i64) v7, .pv (.sl 128) v8, .pv Ty.str v9, .pv (.int .i64) v10, .pv (.int .i64) v11, .pv Ty.str v12, .pv Ty.str v13, .pv (.sl 3) v14, .pv (.sl 25) v15])::ds 61 (AV.ptr 3 [] 1::oL 55 v16::oI v17::oI v18::ds 166 (AV.al 275 []:: .al 275 []:: .ptr 275 [] 1:: .al 275 [1]::oI v19::oI v20::ds 27 ([AV.o (.box 94 [.arr 55 w21, .arr 9 w22])])))))
noncomputable def oQ:R:=lq call k 48 n [.b,.b,.b,.a,.b,.aD,.lp m1,.b,.b,.a,.aD,.b,.b,.b,.a,.b,.aD] (dd::oI v0:: .al 275 []:: .o (.box 25 [.pv (.int .i64) v1, .pv (.sl 55) v2, .pv (.sl 3) v3])::ds 6 (.o (.box 55 [.pv Ty.str v4, .pv Ty.str v5, .pv (.int .i64) v6, .pv (.int .i64) v7, .pv (.sl 128) v8, .pv Ty.str v9, .pv (.int .i64) v10, .pv (.int .i64) v11, .pv Ty.str v12, .pv Ty.str v13, .pv (.sl 3) v14, .pv (.sl 25) v15])::dd::oI v16::oI v17::ds 58 (AV.ptr 3 [] 1::oL 55 v18::oI v19::oI v20::ds 17 (AV.ptr 10 [] 10::oL 3 v21::oI v22::oI v23::ds 178 ([AV.o (.box 94 [.arr 55 w24, .arr 9 w25])])))))
noncomputable def qm:R:=lq call k 48 n [.b,.b,.b,.a,.b,.aD] (dd::oI v0:: .al 275 []:: .o (.box 25 [.pv (.int .i64) v1, .pv (.sl 55) v2, .pv (.sl 3) v3])::ds 68 (AV.ptr 3 [] 1::oL 55 v4::oI v5::oI v6::ds 199 ([AV.o (.box 94 [.arr 55 w7, .arr 9 w8])])))
noncomputable def GB:R:=lq call k 48 n [.b,.b,.a,.b,.aD] (dd::oI v0:: .al 275 []:: .o (.box 25 [.pv (.int .i64) v1, .pv (.sl 55) v2, .pv (.sl 3) v3])::ds 42 (AV.ptr 3 [] 2::oL 3 v4::oI v5::oI v6::ds 225 ([AV.o (.box 94 [.arr 55 w7, .arr 9 w8])])))
theorem LF:vG call k v0 v1 v2 v3 v4 w5 w6=
 some ([.pv .bool (PV.bool false)],[.box 94 [.arr 55 w5, .arr 9 w6]]):=by rw[vG,aE];kernel_rfl
theorem LG:B5 call k n v0 v1 v2 v3 v4 v5 v6 v7 w8 w9=
 some ([.pv .bool (PV.bool false)],[.box 94 [.arr 55 w8, .arr 9 w9]]):=by rw[B5,aE];kernel_rfl
theorem Iz:vH call k m1 n v0 v1 v2 v3 v4 v5 v6 v7 v8 v9 v10 v11 v12 v13 v14 v15 v16 v17 v18 v19 v20 v21 v22 v23 w24 w25=
 oQ call k m1 n v0 v1 v2 v3 v4 v5 v6 v7 v8 v9 v10 v11 v12 v13 v14 v15 v16 v17 v18 v19 v20 v21 v22 (PV.int .i64 (IntKind.i64.wrap (v23.toInt+1))) w24 w25:=by rw[vH,aE];kernel_rfl
theorem IA:qk call k m1 n v0 v1 v2 v3 v4 v5 v6 v7 v8 v9 v10 v11 v12 v13 v14 v15 v16 v17 v18 v19 v20 v21 v22 v23 v24 w25 w26=
 some ([.pv .bool (PV.bool false)],[.box 94 [.arr 55 w25, .arr 9 w26]]):=by rw[qk,aE];kernel_rfl
theorem IB:zI call k m1 n v0 v1 v2 v3 v4 v5 v6 v7 v8 v9 v10 v11 v12 v13 v14 v15 v16 v17 v18 v19 v20 v21 v22 v23 v24 v25 w26 w27=
 bif au (v18.toInt) (0)then
 bif au (v18.toInt) (0)then
 qk call k m1 n v0 v1 v2 v3 v4 v5 v6 v7 v8 v9 v10 v11 v12 v13 v14 v15 v16 v17 v19 v20 v21 v22 v23 v24 (PV.bool true) w26 w27
 else
 none
 else
 bif au (v18.toInt) (0)then
 qk call k m1 n v0 v1 v2 v3 v4 v5 v6 v7 v8 v9 v10 v11 v12 v13 v14 v15 v16 v17 v19 v20 v21 v22 v23 v24 (PV.bool true) w26 w27
 else
 bif aj ((v2.toList.length:Int)) (v18.toInt)then
 bif aj ((v2.toList.length:Int)) (v18.toInt)then
 qk call k m1 n v0 v1 v2 v3 v4 v5 v6 v7 v8 v9 v10 v11 v12 v13 v14 v15 v16 v17 v19 v20 v21 v22 v23 v24 (PV.bool true) w26 w27
 else
 none
 else
 bif aj (0) (v18.toInt)&&au (v18.toInt) ((v2.toList.length:Int))then
 bif aj ((v2.toList.length:Int)) (v18.toInt)then
 qk call k m1 n v0 v1 v2 v3 v4 v5 v6 v7 v8 v9 v10 v11 v12 v13 v14 v15 v16 v17 v19 v20 v21 v22 v23 v24 (PV.bool true) w26 w27
 else
 bif !(((nth default v2.toList v18.toInt.toNat).cell 0).toStr.data.toList==(ByteArray.mk #[117,112]).data.toList)==(v4.toStr.data.toList==(ByteArray.mk #[112,97,114,116]).data.toList)then
 qk call k m1 n v0 v1 v2 v3 v4 v5 v6 v7 v8 v9 v10 v11 v12 v13 v14 v15 v16 v17 v19 v20 v21 v22 v23 v24 (PV.bool true) w26 w27
 else
 vH call k m1 n v0 v1 v2 v3 v4 v5 v6 v7 v8 v9 v10 v11 v12 v13 v14 v15 v16 v17 v19 v20 v21 v22 v23 v24 w26 w27
 else
 none:=by rw[zI,aE];kernel_rfl
theorem IC:zJ call k n v0 v1 v2 v3 v4 v5 v6 v7 w8 w9=
 some ([.pv .bool (PV.bool false)],[.box 94 [.arr 55 w8, .arr 9 w9]]):=by rw[zJ,aE];kernel_rfl
theorem su:oP call k n v0 v1 v2 v3 v4 v5 v6 w7 w8=
 qm call k n v0 v1 v2 v3 v4 v5 (PV.int .i64 (IntKind.i64.wrap (v6.toInt+1))) w7 w8:=by rw[oP,aE];kernel_rfl
theorem ID:ql call k n v0 v1 v2 v3 v4 v5 v6 v7 w8 w9=
 some ([.pv .bool (PV.bool false)],[.box 94 [.arr 55 w8, .arr 9 w9]]):=by rw[ql,aE];kernel_rfl
theorem IE:zK call k n v0 v1 v2 v3 v4 v5 v6 v7 w8 w9=
 some ([.pv .bool (PV.bool false)],[.box 94 [.arr 55 w8, .arr 9 w9]]):=by rw[zK,aE];kernel_rfl
theorem IF:zL call k m1 n v0 v1 v2 v3 v4 v5 v6 v7 v8 v9 v10 v11 v12 v13 v14 v15 v16 v17 v18 v19 v20 w21 w22=
 vI call k m1 n v0 v1 v2 v3 v4 v5 v6 v7 v8 v9 v10 v11 v12 v13 v14 v15 v16 v17 v18 v19 (PV.int .i64 (IntKind.i64.wrap (v20.toInt+1))) w21 w22:=by rw[zL,aE];kernel_rfl
theorem tr:vI call k m1 (n+1) v0 v1 v2 v3 v4 v5 v6 v7 v8 v9 v10 v11 v12 v13 v14 v15 v16 v17 v18 v19 v20 w21 w22=
 bif au (v20.toInt) (v19.toInt)then
 bif aj (0) (v20.toInt)&&au (v20.toInt) ((w21.length:Int))then
 bif ((nth default w21 v20.toInt.toNat).cell 1).toStr.data.toList==v5.toStr.data.toList then
 let c3:=call 65 [.pv (.sl 128) ((nth default w21 v20.toInt.toNat).cell 4), .pv (.sl 128) v8]
 bif ab .bool c3 then
 bif !(aa c3).toBool then
 some ([.pv .bool (PV.bool false)],[.box 94 [.arr 55 w21, .arr 9 w22]])
 else
 zL call k m1 n v0 v1 v2 v3 v4 v5 v6 v7 v8 v9 v10 v11 v12 v13 v14 v15 v16 v17 v18 v19 v20 w21 w22
 else
 none
 else
 zL call k m1 n v0 v1 v2 v3 v4 v5 v6 v7 v8 v9 v10 v11 v12 v13 v14 v15 v16 v17 v18 v19 v20 w21 w22
 else
 none
 else
 bif AJ ((w21.length+[PV.agg [v4,v5,v6,v7,v8,v9,v10,v11,v12,v13,v14,v15]].reverse.length)*184) (room)then
 oP call k m1 v0 v1 v2 v3 v16 v17 v18 (w21++[PV.agg [v4,v5,v6,v7,v8,v9,v10,v11,v12,v13,v14,v15]].reverse) w22
 else
 none:=by kernel_rfl
theorem tt:vJ call k m1 (n+1) v0 v1 v2 v3 v4 v5 v6 v7 v8 v9 v10 v11 v12 v13 v14 v15 v16 v17 v18 v19 v20 w21 w22=
 bif au (v20.toInt) (v19.toInt)then
 bif aj (0) (v20.toInt)&&au (v20.toInt) ((w22.length:Int))then
 bif (nth default w22 v20.toInt.toNat).toStr.data.toList==v5.toStr.data.toList then
 some ([.pv .bool (PV.bool false)],[.box 94 [.arr 55 w21, .arr 9 w22]])
 else
 vJ call k m1 n v0 v1 v2 v3 v4 v5 v6 v7 v8 v9 v10 v11 v12 v13 v14 v15 v16 v17 v18 v19 (PV.int .i64 (IntKind.i64.wrap (v20.toInt+1))) w21 w22
 else
 none
 else
 bif AJ ((w22.length+[v5].reverse.length)*16) (room)then
 oP call k m1 v0 v1 v2 v3 v16 v17 v18 w21 (w22++[v5].reverse)
 else
 none:=by kernel_rfl
theorem ly:oQ call k m1 (n+1) v0 v1 v2 v3 v4 v5 v6 v7 v8 v9 v10 v11 v12 v13 v14 v15 v16 v17 v18 v19 v20 v21 v22 v23 w24 w25=
 bif au (v23.toInt) (v22.toInt)then
 bif aj (0) (v23.toInt)&&au (v23.toInt) ((v21.toList.length:Int))then
 bif ak ((nth default v21.toList v23.toInt.toNat).toInt) (-1)then
 bif ak (v23.toInt) (v16.toInt)then
 vH call k m1 n v0 v1 v2 v3 v4 v5 v6 v7 v8 v9 v10 v11 v12 v13 v14 v15 v16 v17 v18 v19 v20 v21 v22 v23 w24 w25
 else
 bif ak (v23.toInt) (v17.toInt)then
 vH call k m1 n v0 v1 v2 v3 v4 v5 v6 v7 v8 v9 v10 v11 v12 v13 v14 v15 v16 v17 v18 v19 v20 v21 v22 v23 w24 w25
 else
 zI call k m1 n v0 v1 v2 v3 v4 v5 v6 v7 v8 v9 v10 v11 v12 v13 v14 v15 v16 v17 (nth default v21.toList v23.toInt.toNat) v18 v19 v20 v21 v22 v23 (PV.bool false) w24 w25
 else
 zI call k m1 n v0 v1 v2 v3 v4 v5 v6 v7 v8 v9 v10 v11 v12 v13 v14 v15 v16 v17 (nth default v21.toList v23.toInt.toNat) v18 v19 v20 v21 v22 v23 (PV.bool false) w24 w25
 else
 none
 else
 bif v4.toStr.data.toList==(ByteArray.mk #[105,110]).data.toList then
 bif au (v6.toInt) (0)then
 zJ call k m1 v0 v1 v2 v3 v18 v19 v20 (PV.bool true) w24 w25
 else
 bif aj (v1.toInt) (v6.toInt)then
 zJ call k m1 v0 v1 v2 v3 v18 v19 v20 (PV.bool true) w24 w25
 else
 oP call k m1 v0 v1 v2 v3 v18 v19 v20 w24 w25
 else
 bif v4.toStr.data.toList==(ByteArray.mk #[112,97,114,116]).data.toList then
 bif au (0) ((v14.toList.length:Int))then
 bif aj (0) ((nth default v14.toList 0).toInt)&&au ((nth default v14.toList 0).toInt) ((v2.toList.length:Int))then
 bif au (v6.toInt) (0)then
 bif au (v6.toInt) (0)then
 ql call k m1 v0 v1 v2 v3 v18 v19 v20 (PV.bool true) w24 w25
 else
 none
 else
 bif au (v6.toInt) (0)then
 ql call k m1 v0 v1 v2 v3 v18 v19 v20 (PV.bool true) w24 w25
 else
 bif !ak ((Nat.cast ((nth default v2.toList (nth default v14.toList 0).toInt.toNat).cell 11).toList.length:Int)) (1)then
 bif !ak ((Nat.cast ((nth default v2.toList (nth default v14.toList 0).toInt.toNat).cell 11).toList.length:Int)) (1)then
 ql call k m1 v0 v1 v2 v3 v18 v19 v20 (PV.bool true) w24 w25
 else
 none
 else
 bif au (0) ((Nat.cast ((nth default v2.toList (nth default v14.toList 0).toInt.toNat).cell 11).toList.length:Int))then
 bif !ak ((Nat.cast ((nth default v2.toList (nth default v14.toList 0).toInt.toNat).cell 11).toList.length:Int)) (1)then
 ql call k m1 v0 v1 v2 v3 v18 v19 v20 (PV.bool true) w24 w25
 else
 bif aj ((Nat.cast ((nth default ((nth default v2.toList (nth default v14.toList 0).toInt.toNat).cell 11).toList 0).cell 2).toList.length:Int)) (v6.toInt)then
 ql call k m1 v0 v1 v2 v3 v18 v19 v20 (PV.bool true) w24 w25
 else
 oP call k m1 v0 v1 v2 v3 v18 v19 v20 w24 w25
 else
 none
 else
 none
 else
 none
 else
 bif v4.toStr.data.toList==(ByteArray.mk #[117,112]).data.toList then
 bif au (0) ((v15.toList.length:Int))then
 bif !ak (((nth default v15.toList 0).cell 0).toInt) (IntKind.i64.wrap ((v14.toList.length:Int)-2))then
 bif !ak (((nth default v15.toList 0).cell 0).toInt) (IntKind.i64.wrap ((v14.toList.length:Int)-2))then
 zK call k m1 v0 v1 v2 v3 v18 v19 v20 (PV.bool true) w24 w25
 else
 none
 else
 bif au (0) ((v15.toList.length:Int))then
 let c2:=call 48 [.pv (.st 25) (nth default v15.toList 0), .pv (.int .i64) (PV.int .i64 (IntKind.i64.wrap (v0.toInt+1))), .box 94 [.arr 55 w24, .arr 9 w25]]
 bif eG (di [.pv (.st 25) (nth default v15.toList 0), .pv (.int .i64) (PV.int .i64 (IntKind.i64.wrap (v0.toInt+1))), .box 94 [.arr 55 w24, .arr 9 w25]]) c2&&true then
 bif ab .bool c2 then
 bif !(aa c2).toBool then
 zK call k m1 v0 v1 v2 v3 v18 v19 v20 (PV.bool true) (cZ (ch (bD 0 c2) 0)) (cZ (ch (bD 0 c2) 1))
 else
 oP call k m1 v0 v1 v2 v3 v18 v19 v20 (cZ (ch (bD 0 c2) 0)) (cZ (ch (bD 0 c2) 1))
 else
 none
 else
 none
 else
 none
 else
 none
 else
 bif v4.toStr.data.toList==(ByteArray.mk #[107,110,111,98]).data.toList then
 vI call k m1 k v0 v1 v2 v3 v4 v5 v6 v7 v8 v9 v10 v11 v12 v13 v14 v15 v18 v19 v20 (PV.int .i64 (w24.length:Int)) (PV.int .i64 0) w24 w25
 else
 bif v4.toStr.data.toList==(ByteArray.mk #[115,104,111,119]).data.toList then
 vJ call k m1 k v0 v1 v2 v3 v4 v5 v6 v7 v8 v9 v10 v11 v12 v13 v14 v15 v18 v19 v20 (PV.int .i64 (w25.length:Int)) (PV.int .i64 0) w24 w25
 else
 oP call k m1 v0 v1 v2 v3 v18 v19 v20 w24 w25:=by kernel_rfl
theorem B6:qm call k (n+1) v0 v1 v2 v3 v4 v5 v6 w7 w8=
 bif au (v6.toInt) (v5.toInt)then
 bif aj (0) (v6.toInt)&&au (v6.toInt) ((v4.toList.length:Int))then
 let c0:=call 64 [.pv (.st 55) (PV.agg [(nth default v4.toList v6.toInt.toNat).cell 0,(nth default v4.toList v6.toInt.toNat).cell 1,(nth default v4.toList v6.toInt.toNat).cell 2,(nth default v4.toList v6.toInt.toNat).cell 3,(nth default v4.toList v6.toInt.toNat).cell 4,(nth default v4.toList v6.toInt.toNat).cell 5,(nth default v4.toList v6.toInt.toNat).cell 6,(nth default v4.toList v6.toInt.toNat).cell 7,(nth default v4.toList v6.toInt.toNat).cell 8,(nth default v4.toList v6.toInt.toNat).cell 9,(nth default v4.toList v6.toInt.toNat).cell 10,(nth default v4.toList v6.toInt.toNat).cell 11])]
 bif ab .bool c0 then
 bif !(aa c0).toBool then
 some ([.pv .bool (PV.bool false)],[.box 94 [.arr 55 w7, .arr 9 w8]])
 else
 let c1:=call 49 [.pv Ty.str ((nth default v4.toList v6.toInt.toNat).cell 0), .pv (.int .i64) (PV.int .i64 (Nat.cast ((nth default v4.toList v6.toInt.toNat).cell 10).toList.length:Int))]
 bif cc (List.map (ai Try.prog) #[3,3,3,4].toList) c1 then
 oQ call k n k v0 v1 v2 v3 ((nth default v4.toList v6.toInt.toNat).cell 0) ((nth default v4.toList v6.toInt.toNat).cell 1) ((nth default v4.toList v6.toInt.toNat).cell 2) ((nth default v4.toList v6.toInt.toNat).cell 3) ((nth default v4.toList v6.toInt.toNat).cell 4) ((nth default v4.toList v6.toInt.toNat).cell 5) ((nth default v4.toList v6.toInt.toNat).cell 6) ((nth default v4.toList v6.toInt.toNat).cell 7) ((nth default v4.toList v6.toInt.toNat).cell 8) ((nth default v4.toList v6.toInt.toNat).cell 9) ((nth default v4.toList v6.toInt.toNat).cell 10) ((nth default v4.toList v6.toInt.toNat).cell 11) (bk 1 c1) (bk 2 c1) v4 v5 v6 ((nth default v4.toList v6.toInt.toNat).cell 10) (PV.int .i64 (Nat.cast ((nth default v4.toList v6.toInt.toNat).cell 10).toList.length:Int)) (PV.int .i64 0) w7 w8
 else
 none
 else
 none
 else
 none
 else
 let c4:=call 66 [.pv (.st 25) (PV.agg [v1,v2,v3])]
 bif ab (.sl 3) c4 then
 some ([.pv .bool (PV.bool (ak (((aa c4).toList.length:Int)) ((v2.toList.length:Int))))],[.box 94 [.arr 55 w7, .arr 9 w8]])
 else
 bif fU 3 c4 then
 some ([.pv .bool (PV.bool (ak (((cB c4).length:Int)) ((v2.toList.length:Int))))],[.box 94 [.arr 55 w7, .arr 9 w8]])
 else
 none:=by kernel_rfl
theorem Ey:GB call k (n+1) v0 v1 v2 v3 v4 v5 v6 w7 w8=
 bif au (v6.toInt) (v5.toInt)then
 bif aj (0) (v6.toInt)&&au (v6.toInt) ((v4.toList.length:Int))then
 bif au ((nth default v4.toList v6.toInt.toNat).toInt) (0)then
 B5 call k n v0 v1 v2 v3 v4 v5 v6 (PV.bool true) w7 w8
 else
 bif aj ((v2.toList.length:Int)) ((nth default v4.toList v6.toInt.toNat).toInt)then
 B5 call k n v0 v1 v2 v3 v4 v5 v6 (PV.bool true) w7 w8
 else
 bif aj (0) ((nth default v4.toList v6.toInt.toNat).toInt)&&au ((nth default v4.toList v6.toInt.toNat).toInt) ((v2.toList.length:Int))then
 bif ((nth default v2.toList (nth default v4.toList v6.toInt.toNat).toInt.toNat).cell 0).toStr.data.toList==(ByteArray.mk #[117,112]).data.toList then
 B5 call k n v0 v1 v2 v3 v4 v5 v6 (PV.bool true) w7 w8
 else
 GB call k n v0 v1 v2 v3 v4 v5 (PV.int .i64 (IntKind.i64.wrap (v6.toInt+1))) w7 w8
 else
 none
 else
 none
 else
 qm call k k v0 v1 v2 v3 v2 (PV.int .i64 (v2.toList.length:Int)) (PV.int .i64 0) w7 w8:=by kernel_rfl
theorem R48 (Ez:List PV) (EA:List PV):aW Try.prog H0 call k 48 [.pv (.st 25) x0, .pv (.int .i64) x1, .box 94 [.arr 55 Ez, .arr 9 EA]]=
 bif au (60) (x1.toInt)then
 vG call k x1 (x0.cell 0) (x0.cell 1) (x0.cell 2) (PV.bool true) Ez EA
 else
 bif au ((x0.cell 0).toInt) (0)then
 vG call k x1 (x0.cell 0) (x0.cell 1) (x0.cell 2) (PV.bool true) Ez EA
 else
 bif au (64) ((x0.cell 0).toInt)then
 vG call k x1 (x0.cell 0) (x0.cell 1) (x0.cell 2) (PV.bool true) Ez EA
 else
 bif au (64) (((x0.cell 2).toList.length:Int))then
 vG call k x1 (x0.cell 0) (x0.cell 1) (x0.cell 2) (PV.bool true) Ez EA
 else
 bif au (2000) (((x0.cell 1).toList.length:Int))then
 vG call k x1 (x0.cell 0) (x0.cell 1) (x0.cell 2) (PV.bool true) Ez EA
 else
 GB call k k x1 (x0.cell 0) (x0.cell 1) (x0.cell 2) (x0.cell 2) (PV.int .i64 ((x0.cell 2).toList.length:Int)) (PV.int .i64 0) Ez EA:=by rw[aC];kernel_rfl
noncomputable def ng:R:=jn call k 52 11 [.b,.b,.aD,.lp m1,.b,.b,.a,.aD,.b,.a,.b,.aD,.b,.x,.b,.a,.b,.aD,.lp n,.b,.b,.b] (AV.al 105 []::dd::dd:: .o (.box 25 [.pv (.int .i64) v0, .pv (.sl 55) v1, .pv (.sl 3) v2])::dd:: .o (.box 55 [.pv Ty.str v3, .pv Ty.str v4, .pv (.int .i64) v5, .pv (.int .i64) v6, .pv (.sl 128) v7, .pv Ty.str v8, .pv (.int .i64) v9, .pv (.int .i64) v10, .pv Ty.str v11, .pv Ty.str v12, .pv (.sl 3) v13, .pv (.sl 25) v14]):: .o (.box 55 [.pv Ty.str v15, .pv Ty.str v16, .pv (.int .i64) v17, .pv (.int .i64) v18, .pv (.sl 128) v19, .pv Ty.str v20, .pv (.int .i64) v21, .pv (.int .i64) v22, .pv Ty.str v23, .pv Ty.str v24, .pv (.sl 3) v25, .pv (.sl 25) v26])::oB v27::dd::dd::dd:: .ptr 3 [] 1::oL 55 v28::oI v29::oI v30::ds 19 (oI v31::oI v32::ds 69 ([AV.o (.box 102 [.map 9 55 w33 w34, .map 9 4 w35 w36, .pv .bool v37])])))
noncomputable def LH:R:=jn call k 52 9 [.b,.b,.aD,.lp m1,.b,.b,.a,.aD,.b,.a,.b,.aD,.b,.x,.b,.a,.b,.aD,.lp n,.b,.b,.a,.aD,.a] (AV.al 105 []::dd::dd:: .o (.box 25 [.pv (.int .i64) v0, .pv (.sl 55) v1, .pv (.sl 3) v2])::dd:: .o (.box 55 [.pv Ty.str v3, .pv Ty.str v4, .pv (.int .i64) v5, .pv (.int .i64) v6, .pv (.sl 128) v7, .pv Ty.str v8, .pv (.int .i64) v9, .pv (.int .i64) v10, .pv Ty.str v11, .pv Ty.str v12, .pv (.sl 3) v13, .pv (.sl 25) v14]):: .o (.box 55 [.pv Ty.str v15, .pv Ty.str v16, .pv (.int .i64) v17, .pv (.int .i64) v18, .pv (.sl 128) v19, .pv Ty.str v20, .pv (.int .i64) v21, .pv (.int .i64) v22, .pv Ty.str v23, .pv Ty.str v24, .pv (.sl 3) v25, .pv (.sl 25) v26])::oB v27::dd::dd::dd:: .ptr 3 [] 1::oL 55 v28::oI v29::oI v30::ds 19 (oI v31::oI v32::ds 69 ([AV.o (.box 102 [.map 9 55 w33 w34, .map 9 4 w35 w36, .pv .bool v37])])))
noncomputable def zM:R:=lq call k 52 n [.b,.b,.aD,.lp m1,.b,.b,.a,.aD,.b,.b,.b,.aD] (AV.al 105 []::dd::dd:: .o (.box 25 [.pv (.int .i64) v0, .pv (.sl 55) v1, .pv (.sl 3) v2])::dd:: .o (.box 55 [.pv Ty.str v3, .pv Ty.str v4, .pv (.int .i64) v5, .pv (.int .i64) v6, .pv (.sl 128) v7, .pv Ty.str v8, .pv (.int .i64) v9, .pv (.int .i64) v10, .pv Ty.str v11, .pv Ty.str v12, .pv (.sl 3) v13, .pv (.sl 25) v14])::ds 5 (AV.ptr 3 [] 1::oL 55 v15::oI v16::oI v17::ds 78 (AV.ptr 5 [] 11::oL 25 v18::oI v19::oI v20::ds 8 ([AV.o (.box 102 [.map 9 55 w21 w22, .map 9 4 w23 w24, .pv .bool v25])]))))
noncomputable def sw:R:=jn call k 52 16 [.b,.b,.aD,.lp n,.b,.b,.a,.aD,.b,.b,.a] (AV.al 105 []::dd::dd:: .o (.box 25 [.pv (.int .i64) v0, .pv (.sl 55) v1, .pv (.sl 3) v2])::dd:: .o (.box 55 [.pv Ty.str v3, .pv Ty.str v4, .pv (.int .i64) v5, .pv (.int .i64) v6, .pv (.sl 128) v7, .pv Ty.str v8, .pv (.int .i64) v9, .pv (.int .i64) v10, .pv Ty.str v11, .pv Ty.str v12, .pv (.sl 3) v13, .pv (.sl 25) v14])::ds 5 (AV.ptr 3 [] 1::oL 55 v15::oI v16::oI v17::ds 90 ([AV.o (.box 102 [.map 9 55 w18 w19, .map 9 4 w20 w21, .pv .bool v22])])))
noncomputable def sx:R:=jn call k 52 12 [.b,.b,.aD,.lp n,.b,.b,.a,.aD,.b,.a,.b,.aD,.b,.x,.b,.b] (AV.al 105 []::dd::dd:: .o (.box 25 [.pv (.int .i64) v0, .pv (.sl 55) v1, .pv (.sl 3) v2])::dd:: .o (.box 55 [.pv Ty.str v3, .pv Ty.str v4, .pv (.int .i64) v5, .pv (.int .i64) v6, .pv (.sl 128) v7, .pv Ty.str v8, .pv (.int .i64) v9, .pv (.int .i64) v10, .pv Ty.str v11, .pv Ty.str v12, .pv (.sl 3) v13, .pv (.sl 25) v14])::ds 5 (AV.ptr 3 [] 1::oL 55 v15::oI v16::oI v17::ds 90 ([AV.o (.box 102 [.map 9 55 w18 w19, .map 9 4 w20 w21, .pv .bool v22])])))
noncomputable def B7:R:=lq call k 52 n [.b,.b,.aD,.lp m1,.b,.b,.a,.aD,.b,.a,.b,.aD,.b,.x,.b,.a,.b,.aD] (AV.al 105 []::dd::dd:: .o (.box 25 [.pv (.int .i64) v0, .pv (.sl 55) v1, .pv (.sl 3) v2])::dd:: .o (.box 55 [.pv Ty.str v3, .pv Ty.str v4, .pv (.int .i64) v5, .pv (.int .i64) v6, .pv (.sl 128) v7, .pv Ty.str v8, .pv (.int .i64) v9, .pv (.int .i64) v10, .pv Ty.str v11, .pv Ty.str v12, .pv (.sl 3) v13, .pv (.sl 25) v14]):: .o (.box 55 [.pv Ty.str v15, .pv Ty.str v16, .pv (.int .i64) v17, .pv (.int .i64) v18, .pv (.sl 128) v19, .pv Ty.str v20, .pv (.int .i64) v21, .pv (.int .i64) v22, .pv Ty.str v23, .pv Ty.str v24, .pv (.sl 3) v25, .pv (.sl 25) v26])::oB v27::dd::dd::dd:: .ptr 3 [] 1::oL 55 v28::oI v29::oI v30::ds 19 (oI v31::oI v32::ds 69 ([AV.o (.box 102 [.map 9 55 w33 w34, .map 9 4 w35 w36, .pv .bool v37])])))
noncomputable def vK:R:=jn call k 52 15 [.b,.b,.aD,.lp n,.b,.b,.a,.aD,.b,.a,.b,.aD,.b,.y,.b,.x,.b] (AV.al 105 []::dd::dd:: .o (.box 25 [.pv (.int .i64) v0, .pv (.sl 55) v1, .pv (.sl 3) v2])::dd:: .o (.box 55 [.pv Ty.str v3, .pv Ty.str v4, .pv (.int .i64) v5, .pv (.int .i64) v6, .pv (.sl 128) v7, .pv Ty.str v8, .pv (.int .i64) v9, .pv (.int .i64) v10, .pv Ty.str v11, .pv Ty.str v12, .pv (.sl 3) v13, .pv (.sl 25) v14])::ds 5 (AV.ptr 3 [] 1::oL 55 v15::oI v16::oI v17::ds 90 ([AV.o (.box 102 [.map 9 55 w18 w19, .map 9 4 w20 w21, .pv .bool v22])])))
noncomputable def B8:R:=lq call k 52 n [.b,.b,.aD] (AV.al 105 []::dd::dd:: .o (.box 25 [.pv (.int .i64) v0, .pv (.sl 55) v1, .pv (.sl 3) v2])::ds 7 (AV.ptr 3 [] 1::oL 55 v3::oI v4::oI v5::ds 90 ([AV.o (.box 102 [.map 9 55 w6 w7, .map 9 4 w8 w9, .pv .bool v10])])))
theorem IG:ng call k m1 n v0 v1 v2 v3 v4 v5 v6 v7 v8 v9 v10 v11 v12 v13 v14 v15 v16 v17 v18 v19 v20 v21 v22 v23 v24 v25 v26 v27 v28 v29 v30 v31 v32 w33 w34 w35 w36 v37=
 B7 call k m1 n v0 v1 v2 v3 v4 v5 v6 v7 v8 v9 v10 v11 v12 v13 v14 v15 v16 v17 v18 v19 v20 v21 v22 v23 v24 v25 v26 v27 v28 v29 v30 v31 (PV.int .i64 (IntKind.i64.wrap (v32.toInt+1))) w33 w34 w35 w36 v37:=by rw[ng,aE];kernel_rfl
theorem LI:LH call k m1 n v0 v1 v2 v3 v4 v5 v6 v7 v8 v9 v10 v11 v12 v13 v14 v15 v16 v17 v18 v19 v20 v21 v22 v23 v24 v25 v26 v27 v28 v29 v30 v31 v32 w33 w34 w35 w36 v37=
 bif v37.toBool then
 bif v37.toBool then
 ng call k m1 n v0 v1 v2 v3 v4 v5 v6 v7 v8 v9 v10 v11 v12 v13 v14 v15 v16 v17 v18 v19 v20 v21 v22 v23 v24 v25 v26 v27 v28 v29 v30 v31 v32 w33 w34 w35 w36 (PV.bool true)
 else
 none
 else
 bif v27.toBool then
 bif aj (0) (v32.toInt)&&au (v32.toInt) ((v19.toList.length:Int))then
 bif aj (0) (v32.toInt)&&au (v32.toInt) ((v7.toList.length:Int))then
 bif v27.toBool then
 bif v37.toBool then
 ng call k m1 n v0 v1 v2 v3 v4 v5 v6 v7 v8 v9 v10 v11 v12 v13 v14 v15 v16 v17 v18 v19 v20 v21 v22 v23 v24 v25 v26 v27 v28 v29 v30 v31 v32 w33 w34 w35 w36 (PV.bool true)
 else
 ng call k m1 n v0 v1 v2 v3 v4 v5 v6 v7 v8 v9 v10 v11 v12 v13 v14 v15 v16 v17 v18 v19 v20 v21 v22 v23 v24 v25 v26 v27 v28 v29 v30 v31 v32 w33 w34 w35 w36 (PV.bool !(ak (((nth default v19.toList v32.toInt.toNat).cell 0).toInt) (((nth default v7.toList v32.toInt.toNat).cell 0).toInt)&&ak (((nth default v19.toList v32.toInt.toNat).cell 1).toInt) (((nth default v7.toList v32.toInt.toNat).cell 1).toInt)))
 else
 bif v37.toBool then
 ng call k m1 n v0 v1 v2 v3 v4 v5 v6 v7 v8 v9 v10 v11 v12 v13 v14 v15 v16 v17 v18 v19 v20 v21 v22 v23 v24 v25 v26 v27 v28 v29 v30 v31 v32 w33 w34 w35 w36 (PV.bool true)
 else
 ng call k m1 n v0 v1 v2 v3 v4 v5 v6 v7 v8 v9 v10 v11 v12 v13 v14 v15 v16 v17 v18 v19 v20 v21 v22 v23 v24 v25 v26 v27 v28 v29 v30 v31 v32 w33 w34 w35 w36 (PV.bool false)
 else
 none
 else
 none
 else
 bif v27.toBool then
 none
 else
 bif v37.toBool then
 ng call k m1 n v0 v1 v2 v3 v4 v5 v6 v7 v8 v9 v10 v11 v12 v13 v14 v15 v16 v17 v18 v19 v20 v21 v22 v23 v24 v25 v26 v27 v28 v29 v30 v31 v32 w33 w34 w35 w36 (PV.bool true)
 else
 ng call k m1 n v0 v1 v2 v3 v4 v5 v6 v7 v8 v9 v10 v11 v12 v13 v14 v15 v16 v17 v18 v19 v20 v21 v22 v23 v24 v25 v26 v27 v28 v29 v30 v31 v32 w33 w34 w35 w36 (PV.bool false):=by rw[LH,aE];kernel_rfl
theorem B9:zM call k m1 (n+1) v0 v1 v2 v3 v4 v5 v6 v7 v8 v9 v10 v11 v12 v13 v14 v15 v16 v17 v18 v19 v20 w21 w22 w23 w24 v25=
 bif au (v20.toInt) (v19.toInt)then
 bif aj (0) (v20.toInt)&&au (v20.toInt) ((v18.toList.length:Int))then
 let c0:=call 52 [.box 102 [.map 9 55 w21 w22, .map 9 4 w23 w24, .pv .bool v25], .pv (.st 25) (PV.agg [(nth default v18.toList v20.toInt.toNat).cell 0,(nth default v18.toList v20.toInt.toNat).cell 1,(nth default v18.toList v20.toInt.toNat).cell 2])]
 bif eG (di [.box 102 [.map 9 55 w21 w22, .map 9 4 w23 w24, .pv .bool v25], .pv (.st 25) (PV.agg [(nth default v18.toList v20.toInt.toNat).cell 0,(nth default v18.toList v20.toInt.toNat).cell 1,(nth default v18.toList v20.toInt.toNat).cell 2])]) c0&&true then
 bif cc (List.map (ai Try.prog) #[].toList) c0 then
 zM call k m1 n v0 v1 v2 v3 v4 v5 v6 v7 v8 v9 v10 v11 v12 v13 v14 v15 v16 v17 v18 v19 (PV.int .i64 (IntKind.i64.wrap (v20.toInt+1))) (rP (ch (bD 0 c0) 0)) (rQ (ch (bD 0 c0) 0)) (rP (ch (bD 0 c0) 1)) (rQ (ch (bD 0 c0) 1)) (ux (ch (bD 0 c0) 2))
 else
 none
 else
 none
 else
 none
 else
 B8 call k m1 v0 v1 v2 v15 v16 (PV.int .i64 (IntKind.i64.wrap (v17.toInt+1))) w21 w22 w23 w24 v25:=by kernel_rfl
theorem II:sw call k n v0 v1 v2 v3 v4 v5 v6 v7 v8 v9 v10 v11 v12 v13 v14 v15 v16 v17 w18 w19 w20 w21 v22=
 zM call k n k v0 v1 v2 v3 v4 v5 v6 v7 v8 v9 v10 v11 v12 v13 v14 v15 v16 v17 v14 (PV.int .i64 (v14.toList.length:Int)) (PV.int .i64 0) w18 w19 w20 w21 v22:=by rw[sw,aE];kernel_rfl
theorem IJ:sx call k n v0 v1 v2 v3 v4 v5 v6 v7 v8 v9 v10 v11 v12 v13 v14 v15 v16 v17 w18 w19 w20 w21 v22=
 sw call k n v0 v1 v2 v3 v4 v5 v6 v7 v8 v9 v10 v11 v12 v13 v14 v15 v16 v17 (ke Ty.str v4 w18) (kf Ty.str v4 (PV.agg [v3,v4,v5,v6,v7,v8,v9,v10,v11,v12,v13,v14]) w18 w19) w20 w21 v22:=by rw[sx,aE];kernel_rfl
theorem vL:B7 call k m1 (n+1) v0 v1 v2 v3 v4 v5 v6 v7 v8 v9 v10 v11 v12 v13 v14 v15 v16 v17 v18 v19 v20 v21 v22 v23 v24 v25 v26 v27 v28 v29 v30 v31 v32 w33 w34 w35 w36 v37=
 bif au (v32.toInt) (v31.toInt)then
 LH call k m1 n v0 v1 v2 v3 v4 v5 v6 v7 v8 v9 v10 v11 v12 v13 v14 v15 v16 v17 v18 v19 v20 v21 v22 v23 v24 v25 v26 v27 v28 v29 v30 v31 v32 w33 w34 w35 w36 v37
 else
 sx call k m1 v0 v1 v2 v3 v4 v5 v6 v7 v8 v9 v10 v11 v12 v13 v14 v28 v29 v30 w33 w34 w35 w36 v37:=by kernel_rfl
theorem IK:vK call k n v0 v1 v2 v3 v4 v5 v6 v7 v8 v9 v10 v11 v12 v13 v14 v15 v16 v17 w18 w19 w20 w21 v22=
 sw call k n v0 v1 v2 v3 v4 v5 v6 v7 v8 v9 v10 v11 v12 v13 v14 v15 v16 v17 w18 w19 (ke Ty.str v4 w20) (kf Ty.str v4 (PV.bool true) w20 w21) v22:=by rw[vK,aE];kernel_rfl
theorem EB:B8 call k (n+1) v0 v1 v2 v3 v4 v5 w6 w7 w8 w9 v10=
 bif au (v5.toInt) (v4.toInt)then
 bif aj (0) (v5.toInt)&&au (v5.toInt) ((v3.toList.length:Int))then
 bif ((nth default v3.toList v5.toInt.toNat).cell 0).toStr.data.toList==(ByteArray.mk #[107,110,111,98]).data.toList then
 B7 call k n k v0 v1 v2 ((nth default v3.toList v5.toInt.toNat).cell 0) ((nth default v3.toList v5.toInt.toNat).cell 1) ((nth default v3.toList v5.toInt.toNat).cell 2) ((nth default v3.toList v5.toInt.toNat).cell 3) ((nth default v3.toList v5.toInt.toNat).cell 4) ((nth default v3.toList v5.toInt.toNat).cell 5) ((nth default v3.toList v5.toInt.toNat).cell 6) ((nth default v3.toList v5.toInt.toNat).cell 7) ((nth default v3.toList v5.toInt.toNat).cell 8) ((nth default v3.toList v5.toInt.toNat).cell 9) ((nth default v3.toList v5.toInt.toNat).cell 10) ((nth default v3.toList v5.toInt.toNat).cell 11) (((cI Ty.str ((nth default v3.toList v5.toInt.toNat).cell 1) w6 w7).getD (PV.agg [PV.str (ByteArray.mk #[]),PV.str (ByteArray.mk #[]),PV.int .i64 0,PV.int .i64 0,PV.sl [],PV.str (ByteArray.mk #[]),PV.int .i64 0,PV.int .i64 0,PV.str (ByteArray.mk #[]),PV.str (ByteArray.mk #[]),PV.sl [],PV.sl []])).cell 0) (((cI Ty.str ((nth default v3.toList v5.toInt.toNat).cell 1) w6 w7).getD (PV.agg [PV.str (ByteArray.mk #[]),PV.str (ByteArray.mk #[]),PV.int .i64 0,PV.int .i64 0,PV.sl [],PV.str (ByteArray.mk #[]),PV.int .i64 0,PV.int .i64 0,PV.str (ByteArray.mk #[]),PV.str (ByteArray.mk #[]),PV.sl [],PV.sl []])).cell 1) (((cI Ty.str ((nth default v3.toList v5.toInt.toNat).cell 1) w6 w7).getD (PV.agg [PV.str (ByteArray.mk #[]),PV.str (ByteArray.mk #[]),PV.int .i64 0,PV.int .i64 0,PV.sl [],PV.str (ByteArray.mk #[]),PV.int .i64 0,PV.int .i64 0,PV.str (ByteArray.mk #[]),PV.str (ByteArray.mk #[]),PV.sl [],PV.sl []])).cell 2) (((cI Ty.str ((nth default v3.toList v5.toInt.toNat).cell 1) w6 w7).getD (PV.agg [PV.str (ByteArray.mk #[]),PV.str (ByteArray.mk #[]),PV.int .i64 0,PV.int .i64 0,PV.sl [],PV.str (ByteArray.mk #[]),PV.int .i64 0,PV.int .i64 0,PV.str (ByteArray.mk #[]),PV.str (ByteArray.mk #[]),PV.sl [],PV.sl []])).cell 3) (((cI Ty.str ((nth default v3.toList v5.toInt.toNat).cell 1) w6 w7).getD (PV.agg [PV.str (ByteArray.mk #[]),PV.str (ByteArray.mk #[]),PV.int .i64 0,PV.int .i64 0,PV.sl [],PV.str (ByteArray.mk #[]),PV.int .i64 0,PV.int .i64 0,PV.str (ByteArray.mk #[]),PV.str (ByteArray.mk #[]),PV.sl [],PV.sl []])).cell 4) (((cI Ty.str ((nth default v3.toList v5.toInt.toNat).cell 1) w6 w7).getD (PV.agg [PV.str (ByteArray.mk #[]),PV.str (ByteArray.mk #[]),PV.int .i64 0,PV.int .i64 0,PV.sl [],PV.str (ByteArray.mk #[]),PV.int .i64 0,PV.int .i64 0,PV.str (ByteArray.mk #[]),PV.str (ByteArray.mk #[]),PV.sl [],PV.sl []])).cell 5) (((cI Ty.str ((nth default v3.toList v5.toInt.toNat).cell 1) w6 w7).getD (PV.agg [PV.str (ByteArray.mk #[]),PV.str (ByteArray.mk #[]),PV.int .i64 0,PV.int .i64 0,PV.sl [],PV.str (ByteArray.mk #[]),PV.int .i64 0,PV.int .i64 0,PV.str (ByteArray.mk #[]),PV.str (ByteArray.mk #[]),PV.sl [],PV.sl []])).cell 6) (((cI Ty.str ((nth default v3.toList v5.toInt.toNat).cell 1) w6 w7).getD (PV.agg [PV.str (ByteArray.mk #[]),PV.str (ByteArray.mk #[]),PV.int .i64 0,PV.int .i64 0,PV.sl [],PV.str (ByteArray.mk #[]),PV.int .i64 0,PV.int .i64 0,PV.str (ByteArray.mk #[]),PV.str (ByteArray.mk #[]),PV.sl [],PV.sl []])).cell 7) (((cI Ty.str ((nth default v3.toList v5.toInt.toNat).cell 1) w6 w7).getD (PV.agg [PV.str (ByteArray.mk #[]),PV.str (ByteArray.mk #[]),PV.int .i64 0,PV.int .i64 0,PV.sl [],PV.str (ByteArray.mk #[]),PV.int .i64 0,PV.int .i64 0,PV.str (ByteArray.mk #[]),PV.str (ByteArray.mk #[]),PV.sl [],PV.sl []])).cell 8) (((cI Ty.str ((nth default v3.toList v5.toInt.toNat).cell 1) w6 w7).getD (PV.agg [PV.str (ByteArray.mk #[]),PV.str (ByteArray.mk #[]),PV.int .i64 0,PV.int .i64 0,PV.sl [],PV.str (ByteArray.mk #[]),PV.int .i64 0,PV.int .i64 0,PV.str (ByteArray.mk #[]),PV.str (ByteArray.mk #[]),PV.sl [],PV.sl []])).cell 9) (((cI Ty.str ((nth default v3.toList v5.toInt.toNat).cell 1) w6 w7).getD (PV.agg [PV.str (ByteArray.mk #[]),PV.str (ByteArray.mk #[]),PV.int .i64 0,PV.int .i64 0,PV.sl [],PV.str (ByteArray.mk #[]),PV.int .i64 0,PV.int .i64 0,PV.str (ByteArray.mk #[]),PV.str (ByteArray.mk #[]),PV.sl [],PV.sl []])).cell 10) (((cI Ty.str ((nth default v3.toList v5.toInt.toNat).cell 1) w6 w7).getD (PV.agg [PV.str (ByteArray.mk #[]),PV.str (ByteArray.mk #[]),PV.int .i64 0,PV.int .i64 0,PV.sl [],PV.str (ByteArray.mk #[]),PV.int .i64 0,PV.int .i64 0,PV.str (ByteArray.mk #[]),PV.str (ByteArray.mk #[]),PV.sl [],PV.sl []])).cell 11) (PV.bool (cI Ty.str ((nth default v3.toList v5.toInt.toNat).cell 1) w6 w7).isSome) v3 v4 v5 (PV.int .i64 (Nat.cast (((cI Ty.str ((nth default v3.toList v5.toInt.toNat).cell 1) w6 w7).getD (PV.agg [PV.str (ByteArray.mk #[]),PV.str (ByteArray.mk #[]),PV.int .i64 0,PV.int .i64 0,PV.sl [],PV.str (ByteArray.mk #[]),PV.int .i64 0,PV.int .i64 0,PV.str (ByteArray.mk #[]),PV.str (ByteArray.mk #[]),PV.sl [],PV.sl []])).cell 4).toList.length:Int)) (PV.int .i64 0) w6 w7 w8 w9 v10
 else
 bif ((nth default v3.toList v5.toInt.toNat).cell 0).toStr.data.toList==(ByteArray.mk #[115,104,111,119]).data.toList then
 bif v10.toBool then
 bif v10.toBool then
 vK call k n v0 v1 v2 ((nth default v3.toList v5.toInt.toNat).cell 0) ((nth default v3.toList v5.toInt.toNat).cell 1) ((nth default v3.toList v5.toInt.toNat).cell 2) ((nth default v3.toList v5.toInt.toNat).cell 3) ((nth default v3.toList v5.toInt.toNat).cell 4) ((nth default v3.toList v5.toInt.toNat).cell 5) ((nth default v3.toList v5.toInt.toNat).cell 6) ((nth default v3.toList v5.toInt.toNat).cell 7) ((nth default v3.toList v5.toInt.toNat).cell 8) ((nth default v3.toList v5.toInt.toNat).cell 9) ((nth default v3.toList v5.toInt.toNat).cell 10) ((nth default v3.toList v5.toInt.toNat).cell 11) v3 v4 v5 w6 w7 w8 w9 (PV.bool true)
 else
 none
 else
 bif v10.toBool then
 vK call k n v0 v1 v2 ((nth default v3.toList v5.toInt.toNat).cell 0) ((nth default v3.toList v5.toInt.toNat).cell 1) ((nth default v3.toList v5.toInt.toNat).cell 2) ((nth default v3.toList v5.toInt.toNat).cell 3) ((nth default v3.toList v5.toInt.toNat).cell 4) ((nth default v3.toList v5.toInt.toNat).cell 5) ((nth default v3.toList v5.toInt.toNat).cell 6) ((nth default v3.toList v5.toInt.toNat).cell 7) ((nth default v3.toList v5.toInt.toNat).cell 8) ((nth default v3.toList v5.toInt.toNat).cell 9) ((nth default v3.toList v5.toInt.toNat).cell 10) ((nth default v3.toList v5.toInt.toNat).cell 11) v3 v4 v5 w6 w7 w8 w9 (PV.bool true)
 else
 vK call k n v0 v1 v2 ((nth default v3.toList v5.toInt.toNat).cell 0) ((nth default v3.toList v5.toInt.toNat).cell 1) ((nth default v3.toList v5.toInt.toNat).cell 2) ((nth default v3.toList v5.toInt.toNat).cell 3) ((nth default v3.toList v5.toInt.toNat).cell 4) ((nth default v3.toList v5.toInt.toNat).cell 5) ((nth default v3.toList v5.toInt.toNat).cell 6) ((nth default v3.toList v5.toInt.toNat).cell 7) ((nth default v3.toList v5.toInt.toNat).cell 8) ((nth default v3.toList v5.toInt.toNat).cell 9) ((nth default v3.toList v5.toInt.toNat).cell 10) ((nth default v3.toList v5.toInt.toNat).cell 11) v3 v4 v5 w6 w7 w8 w9 ((cI Ty.str ((nth default v3.toList v5.toInt.toNat).cell 1) w8 w9).getD (PV.bool false))
 else
 sw call k n v0 v1 v2 ((nth default v3.toList v5.toInt.toNat).cell 0) ((nth default v3.toList v5.toInt.toNat).cell 1) ((nth default v3.toList v5.toInt.toNat).cell 2) ((nth default v3.toList v5.toInt.toNat).cell 3) ((nth default v3.toList v5.toInt.toNat).cell 4) ((nth default v3.toList v5.toInt.toNat).cell 5) ((nth default v3.toList v5.toInt.toNat).cell 6) ((nth default v3.toList v5.toInt.toNat).cell 7) ((nth default v3.toList v5.toInt.toNat).cell 8) ((nth default v3.toList v5.toInt.toNat).cell 9) ((nth default v3.toList v5.toInt.toNat).cell 10) ((nth default v3.toList v5.toInt.toNat).cell 11) v3 v4 v5 w6 w7 w8 w9 v10
 else
 none
 else
 some ([],[.box 102 [.map 9 55 w6 w7, .map 9 4 w8 w9, .pv .bool v10]]):=by kernel_rfl
theorem R52 (po:List PV) (Pt:List PV) (qn:List PV) (Pu:List PV) (rj x1:PV):aW Try.prog H0 call k 52 [.box 102 [.map 9 55 po Pt, .map 9 4 qn Pu, .pv .bool rj], .pv (.st 25) x1]=
 B8 call k k (x1.cell 0) (x1.cell 1) (x1.cell 2) (x1.cell 1) (PV.int .i64 ((x1.cell 1).toList.length:Int)) (PV.int .i64 0) po (Pt) qn (Pu) rj:=by rw[aC];kernel_rfl
noncomputable def zN:R:=lq call k 92 n [.b,.b,.b,.aD] (AV.al 82 []::dd::dd:: .o (.box 142 [.pv Ty.str v0, .pv Ty.str v1, .pv (.int .i64) v2, .pv (.int .i64) v3, .pv (.sl 128) v4, .pv Ty.str v5, .pv (.int .i64) v6, .pv (.int .i64) v7, .pv Ty.str v8, .pv Ty.str v9, .pv (.sl 142) v10])::ds 67 (AV.ptr 3 [] 10::oL 142 v11::oI v12::oI v13::ds 7 ([AV.o (.box 156 [.arr 164 w14, .arr 9 w15, .pv .bool v16])])))
noncomputable def sy:R:=jn call k 92 12 [.b,.b,.a] (AV.al 82 []::dd::dd:: .o (.box 142 [.pv Ty.str v0, .pv Ty.str v1, .pv (.int .i64) v2, .pv (.int .i64) v3, .pv (.sl 128) v4, .pv Ty.str v5, .pv (.int .i64) v6, .pv (.int .i64) v7, .pv Ty.str v8, .pv Ty.str v9, .pv (.sl 142) v10])::ds 78 ([AV.o (.box 156 [.arr 164 w11, .arr 9 w12, .pv .bool v13])]))
noncomputable def LJ:R:=jn call k 92 10 [.b,.a,.b,.aD,.b,.y,.b,.x,.a,.b,.aD,.lp n,.b,.b,.b] (AV.al 82 []::dd::dd:: .o (.box 142 [.pv Ty.str v0, .pv Ty.str v1, .pv (.int .i64) v2, .pv (.int .i64) v3, .pv (.sl 128) v4, .pv Ty.str v5, .pv (.int .i64) v6, .pv (.int .i64) v7, .pv Ty.str v8, .pv Ty.str v9, .pv (.sl 142) v10])::ds 33 (AV.al 82 []:: .al 82 []:: .ptr 82 [] 1:: .al 82 [1]::oI v11::oI v12::ds 39 ([AV.o (.box 156 [.arr 164 w13, .arr 9 w14, .pv .bool v15])])))
noncomputable def Pv:R:=lq call k 92 n [.b,.a,.b,.aD,.b,.y,.b,.x,.a,.b,.aD] (AV.al 82 []::dd::dd:: .o (.box 142 [.pv Ty.str v0, .pv Ty.str v1, .pv (.int .i64) v2, .pv (.int .i64) v3, .pv (.sl 128) v4, .pv Ty.str v5, .pv (.int .i64) v6, .pv (.int .i64) v7, .pv Ty.str v8, .pv Ty.str v9, .pv (.sl 142) v10])::ds 33 (AV.al 82 []:: .al 82 []:: .ptr 82 [] 1:: .al 82 [1]::oI v11::oI v12::ds 39 ([AV.o (.box 156 [.arr 164 w13, .arr 9 w14, .pv .bool v15])])))
theorem Ca:zN call k (n+1) v0 v1 v2 v3 v4 v5 v6 v7 v8 v9 v10 v11 v12 v13 w14 w15 v16=
 bif au (v13.toInt) (v12.toInt)then
 bif aj (0) (v13.toInt)&&au (v13.toInt) ((v11.toList.length:Int))then
 let c1:=call 92 [.box 156 [.arr 164 w14, .arr 9 w15, .pv .bool v16], .pv (.st 142) (PV.agg [(nth default v11.toList v13.toInt.toNat).cell 0,(nth default v11.toList v13.toInt.toNat).cell 1,(nth default v11.toList v13.toInt.toNat).cell 2,(nth default v11.toList v13.toInt.toNat).cell 3,(nth default v11.toList v13.toInt.toNat).cell 4,(nth default v11.toList v13.toInt.toNat).cell 5,(nth default v11.toList v13.toInt.toNat).cell 6,(nth default v11.toList v13.toInt.toNat).cell 7,(nth default v11.toList v13.toInt.toNat).cell 8,(nth default v11.toList v13.toInt.toNat).cell 9,(nth default v11.toList v13.toInt.toNat).cell 10])]
 bif eG (di [.box 156 [.arr 164 w14, .arr 9 w15, .pv .bool v16], .pv (.st 142) (PV.agg [(nth default v11.toList v13.toInt.toNat).cell 0,(nth default v11.toList v13.toInt.toNat).cell 1,(nth default v11.toList v13.toInt.toNat).cell 2,(nth default v11.toList v13.toInt.toNat).cell 3,(nth default v11.toList v13.toInt.toNat).cell 4,(nth default v11.toList v13.toInt.toNat).cell 5,(nth default v11.toList v13.toInt.toNat).cell 6,(nth default v11.toList v13.toInt.toNat).cell 7,(nth default v11.toList v13.toInt.toNat).cell 8,(nth default v11.toList v13.toInt.toNat).cell 9,(nth default v11.toList v13.toInt.toNat).cell 10])]) c1&&true then
 bif cc (List.map (ai Try.prog) #[].toList) c1 then
 zN call k n v0 v1 v2 v3 v4 v5 v6 v7 v8 v9 v10 v11 v12 (PV.int .i64 (IntKind.i64.wrap (v13.toInt+1))) (cZ (ch (bD 0 c1) 0)) (cZ (ch (bD 0 c1) 1)) (ux (ch (bD 0 c1) 2))
 else
 none
 else
 none
 else
 none
 else
 some ([],[.box 156 [.arr 164 w14, .arr 9 w15, .pv .bool v16]]):=by kernel_rfl
theorem IL:sy call k v0 v1 v2 v3 v4 v5 v6 v7 v8 v9 v10 w11 w12 v13=
 zN call k k v0 v1 v2 v3 v4 v5 v6 v7 v8 v9 v10 v10 (PV.int .i64 (v10.toList.length:Int)) (PV.int .i64 0) w11 w12 v13:=by rw[sy,aE];kernel_rfl
theorem EC:Pv call k (n+1) v0 v1 v2 v3 v4 v5 v6 v7 v8 v9 v10 v11 v12 w13 w14 v15=
 bif au (v12.toInt) (v11.toInt)then
 bif aj (0) (v12.toInt)&&au (v12.toInt) ((w14.length:Int))then
 bif v15.toBool then
 LJ call k n v0 v1 v2 v3 v4 v5 v6 v7 v8 v9 v10 v11 v12 w13 w14 (PV.bool true)
 else
 LJ call k n v0 v1 v2 v3 v4 v5 v6 v7 v8 v9 v10 v11 v12 w13 w14 (PV.bool ((nth default w14 v12.toInt.toNat).toStr.data.toList==v1.toStr.data.toList))
 else
 none
 else
 bif AJ ((w14.length+[v1].reverse.length)*16) (room)then
 sy call k v0 v1 v2 v3 v4 v5 v6 v7 v8 v9 v10 w13 (w14++[v1].reverse) v15
 else
 none:=by kernel_rfl
theorem R92 (po:List PV) (qn:List PV) (rj x1:PV):aW Try.prog H0 call k 92 [.box 156 [.arr 164 po, .arr 9 qn, .pv .bool rj], .pv (.st 142) x1]=
 bif (x1.cell 0).toStr.data.toList==(ByteArray.mk #[107,110,111,98]).data.toList then
 bif au (0) (((x1.cell 4).toList.length:Int))then
 bif au (1) (((x1.cell 4).toList.length:Int))then
 bif au (2) (((x1.cell 4).toList.length:Int))then
 bif au (3) (((x1.cell 4).toList.length:Int))then
 let c0:=call 100 [.box 156 [.arr 164 po, .arr 9 qn, .pv .bool rj], .pv (.st 164) (PV.agg [x1.cell 1,(nth default (x1.cell 4).toList 0).cell 0,(nth default (x1.cell 4).toList 0).cell 1,(nth default (x1.cell 4).toList 1).cell 0,(nth default (x1.cell 4).toList 1).cell 1,(nth default (x1.cell 4).toList 2).cell 0,(nth default (x1.cell 4).toList 2).cell 1,(nth default (x1.cell 4).toList 3).cell 0,(nth default (x1.cell 4).toList 3).cell 1,PV.bool false])]
 bif eG (di [.box 156 [.arr 164 po, .arr 9 qn, .pv .bool rj], .pv (.st 164) (PV.agg [x1.cell 1,(nth default (x1.cell 4).toList 0).cell 0,(nth default (x1.cell 4).toList 0).cell 1,(nth default (x1.cell 4).toList 1).cell 0,(nth default (x1.cell 4).toList 1).cell 1,(nth default (x1.cell 4).toList 2).cell 0,(nth default (x1.cell 4).toList 2).cell 1,(nth default (x1.cell 4).toList 3).cell 0,(nth default (x1.cell 4).toList 3).cell 1,PV.bool false])]) c0&&true then
 bif cc (List.map (ai Try.prog) #[].toList) c0 then
 sy call k (x1.cell 0) (x1.cell 1) (x1.cell 2) (x1.cell 3) (x1.cell 4) (x1.cell 5) (x1.cell 6) (x1.cell 7) (x1.cell 8) (x1.cell 9) (x1.cell 10) (cZ (ch (bD 0 c0) 0)) (cZ (ch (bD 0 c0) 1)) (ux (ch (bD 0 c0) 2))
 else
 none
 else
 none
 else
 none
 else
 none
 else
 none
 else
 none
 else
 bif (x1.cell 0).toStr.data.toList==(ByteArray.mk #[115,104,111,119]).data.toList then
 Pv call k k (x1.cell 0) (x1.cell 1) (x1.cell 2) (x1.cell 3) (x1.cell 4) (x1.cell 5) (x1.cell 6) (x1.cell 7) (x1.cell 8) (x1.cell 9) (x1.cell 10) (PV.int .i64 (qn.length:Int)) (PV.int .i64 0) po qn rj
 else
 sy call k (x1.cell 0) (x1.cell 1) (x1.cell 2) (x1.cell 3) (x1.cell 4) (x1.cell 5) (x1.cell 6) (x1.cell 7) (x1.cell 8) (x1.cell 9) (x1.cell 10) po qn rj:=by rw[aC];kernel_rfl
noncomputable def Pw:R:=jn call k 93 8 [.b,.a,.b,.aD,.lp m1,.b,.b,.a,.aD,.b,.b,.aD,.lp n,.b,.b,.b] (AV.al 44 []::dd::dd::dd:: .o (.box 164 [.pv Ty.str v0, .pv (.int .i64) v1, .pv (.int .i64) v2, .pv (.int .i64) v3, .pv (.int .i64) v4, .pv (.int .i64) v5, .pv (.int .i64) v6, .pv (.int .i64) v7, .pv (.int .i64) v8, .pv .bool v9])::dd::dd:: .al 44 []:: .al 44 []:: .ptr 44 [] 0:: .al 44 [0]::oI v10::oI v11::dd::dd::dd:: .al 44 []:: .al 44 []:: .ptr 44 [] 1:: .al 44 [1]::oI v12::oI v13::ds 22 ([AV.o (.box 156 [.arr 164 w14, .arr 9 w15, .pv .bool v16])]))
noncomputable def LK:R:=lq call k 93 n [.b,.a,.b,.aD,.lp m1,.b,.b,.a,.aD,.b,.b,.aD] (AV.al 44 []::dd::dd::dd:: .o (.box 164 [.pv Ty.str v0, .pv (.int .i64) v1, .pv (.int .i64) v2, .pv (.int .i64) v3, .pv (.int .i64) v4, .pv (.int .i64) v5, .pv (.int .i64) v6, .pv (.int .i64) v7, .pv (.int .i64) v8, .pv .bool v9])::dd::dd:: .al 44 []:: .al 44 []:: .ptr 44 [] 0:: .al 44 [0]::oI v10::oI v11::dd::dd::dd:: .al 44 []:: .al 44 []:: .ptr 44 [] 1:: .al 44 [1]::oI v12::oI v13::ds 22 ([AV.o (.box 156 [.arr 164 w14, .arr 9 w15, .pv .bool v16])]))
noncomputable def GC:R:=lq call k 93 n [.b,.a,.b,.aD] (AV.al 44 []::ds 6 (AV.al 44 []:: .al 44 []:: .ptr 44 [] 0:: .al 44 [0]::oI v0::oI v1::ds 31 ([AV.o (.box 156 [.arr 164 w2, .arr 9 w3, .pv .bool v4])])))
theorem ED:LK call k m1 (n+1) v0 v1 v2 v3 v4 v5 v6 v7 v8 v9 v10 v11 v12 v13 w14 w15 v16=
 bif au (v13.toInt) (v12.toInt)then
 bif aj (0) (v13.toInt)&&au (v13.toInt) ((w15.length:Int))then
 bif v16.toBool then
 Pw call k m1 n v0 v1 v2 v3 v4 v5 v6 v7 v8 v9 v10 v11 v12 v13 w14 w15 (PV.bool true)
 else
 Pw call k m1 n v0 v1 v2 v3 v4 v5 v6 v7 v8 v9 v10 v11 v12 v13 w14 w15 (PV.bool ((nth default w15 v13.toInt.toNat).toStr.data.toList==v0.toStr.data.toList))
 else
 none
 else
 GC call k m1 v10 (PV.int .i64 (IntKind.i64.wrap (v11.toInt+1))) w14 w15 v16:=by kernel_rfl
theorem nh:GC call k (n+1) v0 v1 w2 w3 v4=
 bif au (v1.toInt) (v0.toInt)then
 bif aj (0) (v1.toInt)&&au (v1.toInt) ((w2.length:Int))then
 LK call k n k ((nth default w2 v1.toInt.toNat).cell 0) ((nth default w2 v1.toInt.toNat).cell 1) ((nth default w2 v1.toInt.toNat).cell 2) ((nth default w2 v1.toInt.toNat).cell 3) ((nth default w2 v1.toInt.toNat).cell 4) ((nth default w2 v1.toInt.toNat).cell 5) ((nth default w2 v1.toInt.toNat).cell 6) ((nth default w2 v1.toInt.toNat).cell 7) ((nth default w2 v1.toInt.toNat).cell 8) ((nth default w2 v1.toInt.toNat).cell 9) v0 v1 (PV.int .i64 (w3.length:Int)) (PV.int .i64 0) w2 w3 v4
 else
 none
 else
 some ([.pv .bool v4],[.box 156 [.arr 164 w2, .arr 9 w3, .pv .bool v4]]):=by kernel_rfl
theorem R93 (po:List PV) (qn:List PV) (rj:PV):aW Try.prog H0 call k 93 [.box 156 [.arr 164 po, .arr 9 qn, .pv .bool rj]]=
 GC call k k (PV.int .i64 (po.length:Int)) (PV.int .i64 0) po qn rj:=by rw[aC];kernel_rfl
noncomputable def EE:R:=lq call k 100 n [.b,.a,.b,.aD] (AV.al 43 []::dd::dd:: .o (.box 164 [.pv Ty.str v0, .pv (.int .i64) v1, .pv (.int .i64) v2, .pv (.int .i64) v3, .pv (.int .i64) v4, .pv (.int .i64) v5, .pv (.int .i64) v6, .pv (.int .i64) v7, .pv (.int .i64) v8, .pv .bool v9])::dd::dd:: .al 43 []:: .al 43 []:: .ptr 43 [] 0:: .al 43 [0]::oI v10::oI v11::ds 31 ([AV.o (.box 156 [.arr 164 w12, .arr 9 w13, .pv .bool v14])]))
theorem Cb:EE call k (n+1) v0 v1 v2 v3 v4 v5 v6 v7 v8 v9 v10 v11 w12 w13 v14=
 bif au (v11.toInt) (v10.toInt)then
 bif aj (0) (v11.toInt)&&au (v11.toInt) ((w12.length:Int))then
 bif ((nth default w12 v11.toInt.toNat).cell 0).toStr.data.toList==v0.toStr.data.toList then
 bif v14.toBool then
 some ([],[.box 156 [.arr 164 w12, .arr 9 w13, .pv .bool (PV.bool true)]])
 else
 some ([],[.box 156 [.arr 164 w12, .arr 9 w13, .pv .bool (PV.bool !(((nth default w12 v11.toInt.toNat).cell 0).toStr.data.toList==v0.toStr.data.toList&&(ak (((nth default w12 v11.toInt.toNat).cell 1).toInt) (v1.toInt)&&ak (((nth default w12 v11.toInt.toNat).cell 2).toInt) (v2.toInt)&&(ak (((nth default w12 v11.toInt.toNat).cell 3).toInt) (v3.toInt)&&ak (((nth default w12 v11.toInt.toNat).cell 4).toInt) (v4.toInt)&&(ak (((nth default w12 v11.toInt.toNat).cell 5).toInt) (v5.toInt)&&ak (((nth default w12 v11.toInt.toNat).cell 6).toInt) (v6.toInt)&&(ak (((nth default w12 v11.toInt.toNat).cell 7).toInt) (v7.toInt)&&ak (((nth default w12 v11.toInt.toNat).cell 8).toInt) (v8.toInt)&&((nth default w12 v11.toInt.toNat).cell 9).toBool==v9.toBool))))))]])
 else
 EE call k n v0 v1 v2 v3 v4 v5 v6 v7 v8 v9 v10 (PV.int .i64 (IntKind.i64.wrap (v11.toInt+1))) w12 w13 v14
 else
 none
 else
 bif AJ ((w12.length+[PV.agg [v0,v1,v2,v3,v4,v5,v6,v7,v8,v9]].reverse.length)*88) (room)then
 some ([],[.box 156 [.arr 164 (w12++[PV.agg [v0,v1,v2,v3,v4,v5,v6,v7,v8,v9]].reverse), .arr 9 w13, .pv .bool v14]])
 else
 none:=by kernel_rfl
theorem Xc (po:List PV) (qn:List PV) (rj x1:PV):aW Try.prog H0 call k 100 [.box 156 [.arr 164 po, .arr 9 qn, .pv .bool rj], .pv (.st 164) x1]=
 EE call k k (x1.cell 0) (x1.cell 1) (x1.cell 2) (x1.cell 3) (x1.cell 4) (x1.cell 5) (x1.cell 6) (x1.cell 7) (x1.cell 8) (x1.cell 9) (PV.int .i64 (po.length:Int)) (PV.int .i64 0) po qn rj:=by rw[aC];kernel_rfl
end Go.V
