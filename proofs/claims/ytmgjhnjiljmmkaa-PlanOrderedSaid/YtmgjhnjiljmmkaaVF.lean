/- Such equations, second part. Conditions: those that each theorem names. (Names are short so that the claim keeps to its size.) -/
import Derived.Test.YtmgjhnjiljmmkaaVH
set_option linter.unusedSimpArgs false
set_option linter.unusedVariables false
set_option maxRecDepth 100000
namespace Go.V
open Go.Proofs
variable (call:aw) (k m1 m2 m3 n:Nat) (x0 x1 x2 x3 x4 x5 x6 x7 x8 x9:PV) (v0:PV) (w0:List PV) (u0:Nat) (v1:PV) (w1:List PV) (u1:Nat) (v2:PV) (w2:List PV) (u2:Nat) (v3:PV) (w3:List PV) (u3:Nat) (v4:PV) (w4:List PV) (u4:Nat) (v5:PV) (w5:List PV) (u5:Nat) (v6:PV) (w6:List PV) (u6:Nat) (v7:PV) (w7:List PV) (u7:Nat) (v8:PV) (w8:List PV) (u8:Nat) (v9:PV) (w9:List PV) (u9:Nat) (v10:PV) (w10:List PV) (u10:Nat) (v11:PV) (w11:List PV) (u11:Nat) (v12:PV) (w12:List PV) (u12:Nat) (v13:PV) (w13:List PV) (u13:Nat) (v14:PV) (w14:List PV) (u14:Nat) (v15:PV) (w15:List PV) (u15:Nat) (v16:PV) (w16:List PV) (u16:Nat) (v17:PV) (w17:List PV) (u17:Nat) (v18:PV) (w18:List PV) (u18:Nat) (v19:PV) (w19:List PV) (u19:Nat) (v20:PV) (w20:List PV) (u20:Nat) (v21:PV) (w21:List PV) (u21:Nat) (v22:PV) (w22:List PV) (u22:Nat) (v23:PV) (w23:List PV) (u23:Nat) (v24:PV) (w24:List PV) (u24:Nat) (v25:PV) (w25:List PV) (u25:Nat) (v26:PV) (w26:List PV) (u26:Nat) (v27:PV) (w27:List PV) (u27:Nat) (v28:PV) (w28:List PV) (u28:Nat) (v29:PV) (w29:List PV) (u29:Nat) (v30:PV) (w30:List PV) (u30:Nat) (v31:PV) (w31:List PV) (u31:Nat) (v32:PV) (w32:List PV) (u32:Nat) (v33:PV) (w33:List PV) (u33:Nat) (v34:PV) (w34:List PV) (u34:Nat) (v35:PV) (w35:List PV) (u35:Nat) (v36:PV) (w36:List PV) (u36:Nat) (v37:PV) (w37:List PV) (u37:Nat) (v38:PV) (w38:List PV) (u38:Nat) (v39:PV) (w39:List PV) (u39:Nat) (v40:PV) (w40:List PV) (u40:Nat) (v41:PV) (w41:List PV) (u41:Nat) (v42:PV) (w42:List PV) (u42:Nat) (v43:PV) (w43:List PV) (u43:Nat) (v44:PV) (w44:List PV) (u44:Nat) (v45:PV) (w45:List PV) (u45:Nat) (v46:PV) (w46:List PV) (u46:Nat) (v47:PV) (w47:List PV) (u47:Nat) (v48:PV) (w48:List PV) (u48:Nat) (v49:PV) (w49:List PV) (u49:Nat) (v50:PV) (w50:List PV) (u50:Nat) (v51:PV) (w51:List PV) (u51:Nat) (v52:PV) (w52:List PV) (u52:Nat) (v53:PV) (w53:List PV) (u53:Nat) (v54:PV) (w54:List PV) (u54:Nat) (v55:PV) (w55:List PV) (u55:Nat) (v56:PV) (w56:List PV) (u56:Nat) (v57:PV) (w57:List PV) (u57:Nat) (v58:PV) (w58:List PV) (u58:Nat) (v59:PV) (w59:List PV) (u59:Nat)
noncomputable def zq:R:=jn call k 70 12 [.b,.b,.b,.a,.b,.aD,.lp m1,.b,.b,.a,.aD,.b,.b,.aD,.lp n,.b,.b,.b] (dd:: .o (.box 25 [.pv (.int .i64) v0, .pv (.sl 55) v1, .pv (.sl 3) v2])::dd::dd:: .o (.arr 3 w3):: .o (.own 23 3 w4 none)::oI v5::ds 13 (AV.al 4 []::dd::dd::dd:: .al 5 []:: .ptr 1 [] 1::oL 55 v6::oI v7::oI v8::ds 5 (oL 3 v9::oI v10::oI v11::ds 96 [])))
noncomputable def sn:R:=jn call k 70 13 [.b,.b,.b,.a,.b,.aD,.lp n,.b,.b,.b] (dd:: .o (.box 25 [.pv (.int .i64) v0, .pv (.sl 55) v1, .pv (.sl 3) v2])::dd::dd:: .o (.arr 3 w3):: .o (.own 23 3 w4 none)::ds 14 (AV.al 4 []::dd::dd::dd:: .al 5 []:: .ptr 1 [] 1::oL 55 v5::oI v6::oI v7::ds 104 []))
noncomputable def Gk:R:=lq call k 70 n [.b,.b,.b,.a,.b,.aD,.lp m1,.b,.b,.a,.aD,.b,.b,.aD] (dd:: .o (.box 25 [.pv (.int .i64) v0, .pv (.sl 55) v1, .pv (.sl 3) v2])::dd::dd:: .o (.arr 3 w3):: .o (.own 23 3 w4 none)::oI v5::ds 13 (AV.al 4 []::dd::dd::dd:: .al 5 []:: .ptr 1 [] 1::oL 55 v6::oI v7::oI v8::ds 5 (oL 3 v9::oI v10::oI v11::ds 96 [])))
noncomputable def rh:R:=jn call k 70 12 [.b,.b,.b,.a,.b,.aD,.lp m1,.b,.b,.a,.aD,.b,.b,.aD,.lp n,.b,.b,.b] (dd:: .o (.box 25 [.pv (.int .i64) v0, .pv (.sl 55) v1, .pv (.sl 3) v2])::dd::dd:: .o (.arr 3 w3):: .o (.own 23 3 w4 none)::oI v5::ds 13 (AV.al 4 []::dd::dd::dd:: .al 5 []:: .ptr 1 [] 1::oL 55 v6::oI v7::oI v8::ds 5 (.o (.arr 3 w9)::oI v10::oI v11::ds 96 [])))
noncomputable def ui:R:=lq call k 70 n [.b,.b,.b,.a,.b,.aD,.lp m1,.b,.b,.a,.aD,.b,.b,.aD] (dd:: .o (.box 25 [.pv (.int .i64) v0, .pv (.sl 55) v1, .pv (.sl 3) v2])::dd::dd:: .o (.arr 3 w3):: .o (.own 23 3 w4 none)::oI v5::ds 13 (AV.al 4 []::dd::dd::dd:: .al 5 []:: .ptr 1 [] 1::oL 55 v6::oI v7::oI v8::ds 5 (.o (.arr 3 w9)::oI v10::oI v11::ds 96 [])))
noncomputable def zr:R:=jn call k 70 35 [.b,.b,.b,.b,.b,.b,.b,.a,.b,.aD,.lp m1,.b,.aD,.b,.b,.b,.b,.a,.b,.aD,.lp n,.b,.b,.b] (dd:: .o (.box 25 [.pv (.int .i64) v0, .pv (.sl 55) v1, .pv (.sl 3) v2])::dd::dd:: .o (.arr 3 w3):: .o (.own 23 3 w4 none)::ds 4 (.o (.arr 4 w5)::dd:: .o (.arr 3 w6)::dd::oI v7::ds 5 (AV.al 4 []::dd::dd::dd:: .al 5 []::ds 38 (AV.al 10 []::ds 31 (AV.al 12 []::dd::dd:: .al 5 []::dd:: .el 5 [] u8 0:: .al 5 [u9]::oI v10::oI v11::ds 29 [])))))
noncomputable def zt:R:=lq call k 70 n [.b,.b,.b,.b,.b,.b,.b,.a,.b,.aD,.lp m1,.b,.aD,.b,.b,.b,.b,.a,.b,.aD] (dd:: .o (.box 25 [.pv (.int .i64) v0, .pv (.sl 55) v1, .pv (.sl 3) v2])::dd::dd:: .o (.arr 3 w3):: .o (.own 23 3 w4 none)::ds 4 (.o (.arr 4 w5)::dd:: .o (.arr 3 w6)::dd::oI v7::ds 5 (AV.al 4 []::dd::dd::dd:: .al 5 []::ds 38 (AV.al 10 []::ds 31 (AV.al 12 []::dd::dd:: .al 5 []::dd:: .el 5 [] u8 0:: .al 5 [u9]::oI v10::oI v11::ds 29 [])))))
noncomputable def qj:R:=lq call k 70 n [.b,.b,.b,.b,.b,.b,.b,.a,.b,.aD] (dd:: .o (.box 25 [.pv (.int .i64) v0, .pv (.sl 55) v1, .pv (.sl 3) v2])::dd::dd:: .o (.arr 3 w3):: .o (.own 23 3 w4 none)::ds 4 (.o (.arr 4 w5)::dd:: .o (.arr 3 w6)::oI v7::ds 6 (AV.al 4 []::dd::dd::dd:: .al 5 []::ds 38 (AV.al 10 []::ds 69 []))))
noncomputable def vz:R:=lq call k 70 n [.b,.b,.b,.b,.b,.a,.b,.aD] (dd:: .o (.box 25 [.pv (.int .i64) v0, .pv (.sl 55) v1, .pv (.sl 3) v2])::dd::dd:: .o (.arr 3 w3):: .o (.own 23 3 w4 none)::ds 4 (.o (.arr 4 w5)::ds 9 (AV.al 4 []::dd::dd::dd:: .al 5 []::ds 38 (AV.al 10 []::dd::oI v6::oI v7::ds 66 []))))
noncomputable def Gl:R:=lq call k 70 n [.b,.b,.b,.a,.b,.aD] (dd:: .o (.box 25 [.pv (.int .i64) v0, .pv (.sl 55) v1, .pv (.sl 3) v2])::dd::dd:: .o (.arr 3 w3):: .o (.own 23 3 w4 none)::ds 14 (AV.al 4 []::dd::dd::dd:: .al 5 []:: .ptr 1 [] 1::oL 55 v5::oI v6::oI v7::ds 104 []))
theorem xW:zq call k m1 n v0 v1 v2 w3 w4 v5 v6 v7 v8 v9 v10 v11=
 Gk call k m1 n v0 v1 v2 w3 w4 v5 v6 v7 v8 v9 v10 (PV.int .i64 (IntKind.i64.wrap (v11.toInt+1))):=by rw[zq,aE];kernel_rfl
theorem xX:sn call k n v0 v1 v2 w3 w4 v5 v6 v7=
 Gl call k n v0 v1 v2 w3 w4 v5 v6 (PV.int .i64 (IntKind.i64.wrap (v7.toInt+1))):=by rw[sn,aE];kernel_rfl
theorem Eg:Gk call k m1 (n+1) v0 v1 v2 w3 w4 v5 v6 v7 v8 v9 v10 v11=
 bif au (v11.toInt) (v10.toInt)then
 bif aj (0) (v11.toInt)&&au (v11.toInt) ((v9.toList.length:Int))then
 bif aj (0) ((nth default v9.toList v11.toInt.toNat).toInt)then
 bif aj (0) (v5.toInt)&&au (v5.toInt) ((w3.length:Int))then
 bif aj (0) (v5.toInt)&&au (v5.toInt) ((w3.length:Int))then
 bif aj (0) ((nth default v9.toList v11.toInt.toNat).toInt)&&au ((nth default v9.toList v11.toInt.toNat).toInt) ((w4.length:Int))then
 bif AJ (((nth default w4 (nth default v9.toList v11.toInt.toNat).toInt.toNat).toList.length+[v5].reverse.length)*8) (room)then
 bif aj (0) ((nth default v9.toList v11.toInt.toNat).toInt)&&au ((nth default v9.toList v11.toInt.toNat).toInt) ((w4.length:Int))then
 bif jo (some (nth default v9.toList v11.toInt.toNat).toInt.toNat) (nth default v9.toList v11.toInt.toNat).toInt.toNat&&true then
 zq call k m1 n v0 v1 v2 (w3.set v5.toInt.toNat (PV.int .i64 (IntKind.i64.wrap ((nth default w3 v5.toInt.toNat).toInt+1)))) (w4.set (nth default v9.toList v11.toInt.toNat).toInt.toNat (PV.sl ((nth default w4 (nth default v9.toList v11.toInt.toNat).toInt.toNat).toList++[v5].reverse))) v5 v6 v7 v8 v9 v10 v11
 else
 none
 else
 none
 else
 none
 else
 none
 else
 none
 else
 none
 else
 zq call k m1 n v0 v1 v2 w3 w4 v5 v6 v7 v8 v9 v10 v11
 else
 none
 else
 sn call k m1 v0 v1 v2 w3 w4 v6 v7 v8:=by kernel_rfl
theorem tq:rh call k m1 n v0 v1 v2 w3 w4 v5 v6 v7 v8 w9 v10 v11=
 ui call k m1 n v0 v1 v2 w3 w4 v5 v6 v7 v8 w9 v10 (PV.int .i64 (IntKind.i64.wrap (v11.toInt+1))):=by rw[rh,aE];kernel_rfl
theorem zu:ui call k m1 (n+1) v0 v1 v2 w3 w4 v5 v6 v7 v8 w9 v10 v11=
 bif au (v11.toInt) (v10.toInt)then
 bif aj (0) (v11.toInt)&&au (v11.toInt) ((w9.length:Int))then
 bif aj (0) ((nth default w9 v11.toInt.toNat).toInt)then
 bif aj (0) (v5.toInt)&&au (v5.toInt) ((w3.length:Int))then
 bif aj (0) (v5.toInt)&&au (v5.toInt) ((w3.length:Int))then
 bif aj (0) ((nth default w9 v11.toInt.toNat).toInt)&&au ((nth default w9 v11.toInt.toNat).toInt) ((w4.length:Int))then
 bif AJ (((nth default w4 (nth default w9 v11.toInt.toNat).toInt.toNat).toList.length+[v5].reverse.length)*8) (room)then
 bif aj (0) ((nth default w9 v11.toInt.toNat).toInt)&&au ((nth default w9 v11.toInt.toNat).toInt) ((w4.length:Int))then
 bif jo (some (nth default w9 v11.toInt.toNat).toInt.toNat) (nth default w9 v11.toInt.toNat).toInt.toNat&&true then
 rh call k m1 n v0 v1 v2 (w3.set v5.toInt.toNat (PV.int .i64 (IntKind.i64.wrap ((nth default w3 v5.toInt.toNat).toInt+1)))) (w4.set (nth default w9 v11.toInt.toNat).toInt.toNat (PV.sl ((nth default w4 (nth default w9 v11.toInt.toNat).toInt.toNat).toList++[v5].reverse))) v5 v6 v7 v8 w9 v10 v11
 else
 none
 else
 none
 else
 none
 else
 none
 else
 none
 else
 none
 else
 rh call k m1 n v0 v1 v2 w3 w4 v5 v6 v7 v8 w9 v10 v11
 else
 none
 else
 sn call k m1 v0 v1 v2 w3 w4 v6 v7 v8:=by kernel_rfl
theorem Ii:zr call k m1 n v0 v1 v2 w3 w4 w5 w6 v7 u8 u9 v10 v11=
 zt call k m1 n v0 v1 v2 w3 w4 w5 w6 v7 u8 u9 v10 (PV.int .i64 (IntKind.i64.wrap (v11.toInt+1))):=by rw[zr,aE];kernel_rfl
theorem BP:zt call k m1 (n+1) v0 v1 v2 w3 w4 w5 w6 v7 u8 u9 v10 v11=
 bif au (v11.toInt) (v10.toInt)then
 bif aj (0) (v11.toInt)&&au (v11.toInt) (((nth default w4 u9).toList.length:Int))then
 bif aj (0) ((nth default (nth default w4 u9).toList v11.toInt.toNat).toInt)&&au ((nth default (nth default w4 u9).toList v11.toInt.toNat).toInt) ((w3.length:Int))then
 bif aj (0) ((nth default (nth default w4 u9).toList v11.toInt.toNat).toInt)&&au ((nth default (nth default w4 u9).toList v11.toInt.toNat).toInt) ((w3.length:Int))then
 bif aj (0) ((nth default (nth default w4 u9).toList v11.toInt.toNat).toInt)&&au ((nth default (nth default w4 u9).toList v11.toInt.toNat).toInt) ((Nat.cast (w3.set (nth default (nth default w4 u9).toList v11.toInt.toNat).toInt.toNat (PV.int .i64 (IntKind.i64.wrap ((nth default w3 (nth default (nth default w4 u9).toList v11.toInt.toNat).toInt.toNat).toInt-1)))).length:Int))then
 bif ak ((nth default (w3.set (nth default (nth default w4 u9).toList v11.toInt.toNat).toInt.toNat (PV.int .i64 (IntKind.i64.wrap ((nth default w3 (nth default (nth default w4 u9).toList v11.toInt.toNat).toInt.toNat).toInt-1)))) (nth default (nth default w4 u9).toList v11.toInt.toNat).toInt.toNat).toInt) (0)then
 bif aj (0) ((nth default (nth default w4 u9).toList v11.toInt.toNat).toInt)&&au ((nth default (nth default w4 u9).toList v11.toInt.toNat).toInt) ((w5.length:Int))then
 zr call k m1 n v0 v1 v2 (w3.set (nth default (nth default w4 u9).toList v11.toInt.toNat).toInt.toNat (PV.int .i64 (IntKind.i64.wrap ((nth default w3 (nth default (nth default w4 u9).toList v11.toInt.toNat).toInt.toNat).toInt-1)))) w4 (w5.set (nth default (nth default w4 u9).toList v11.toInt.toNat).toInt.toNat (PV.bool true)) w6 (PV.int .i64 (if(nth default (nth default w4 u9).toList v11.toInt.toNat).toInt<v7.toInt then(nth default (nth default w4 u9).toList v11.toInt.toNat).toInt else v7.toInt)) u8 u9 v10 v11
 else
 none
 else
 zr call k m1 n v0 v1 v2 (w3.set (nth default (nth default w4 u9).toList v11.toInt.toNat).toInt.toNat (PV.int .i64 (IntKind.i64.wrap ((nth default w3 (nth default (nth default w4 u9).toList v11.toInt.toNat).toInt.toNat).toInt-1)))) w4 w5 w6 v7 u8 u9 v10 v11
 else
 none
 else
 none
 else
 none
 else
 none
 else
 qj call k m1 v0 v1 v2 w3 w4 w5 w6 v7:=by kernel_rfl
theorem BQ:qj call k (n+1) v0 v1 v2 w3 w4 w5 w6 v7=
 bif au (v7.toInt) ((w5.length:Int))then
 bif aj (0) (v7.toInt)&&au (v7.toInt) ((w5.length:Int))then
 bif !(nth default w5 v7.toInt.toNat).toBool then
 qj call k n v0 v1 v2 w3 w4 w5 w6 (PV.int .i64 (IntKind.i64.wrap (v7.toInt+1)))
 else
 bif aj (0) (v7.toInt)&&au (v7.toInt) ((w5.length:Int))then
 bif AJ ((w6.length+[v7].reverse.length)*8) (room)then
 bif aj (0) (v7.toInt)&&au (v7.toInt) ((w4.length:Int))then
 zt call k n k v0 v1 v2 w3 w4 (w5.set v7.toInt.toNat (PV.bool false)) (w6++[v7].reverse) (PV.int .i64 (IntKind.i64.wrap (v7.toInt+1))) (v7.toInt.toNat) (v7.toInt.toNat) (PV.int .i64 ((nth default w4 v7.toInt.toNat).toList.length:Int)) (PV.int .i64 0)
 else
 none
 else
 none
 else
 none
 else
 none
 else
 some ([.pv (.sl 3) (PV.sl w6), .pv .bool (PV.bool (ak ((w6.length:Int)) ((v1.toList.length:Int))))],[]):=by kernel_rfl
theorem BR:vz call k (n+1) v0 v1 v2 w3 w4 w5 v6 v7=
 bif au (v7.toInt) (v6.toInt)then
 bif aj (0) (v7.toInt)&&au (v7.toInt) ((w3.length:Int))then
 bif aj (0) (v7.toInt)&&au (v7.toInt) ((w5.length:Int))then
 vz call k n v0 v1 v2 w3 w4 (w5.set v7.toInt.toNat (PV.bool (ak ((nth default w3 v7.toInt.toNat).toInt) (0)))) v6 (PV.int .i64 (IntKind.i64.wrap (v7.toInt+1)))
 else
 none
 else
 none
 else
 qj call k k v0 v1 v2 w3 w4 w5 ([]) (PV.int .i64 0):=by kernel_rfl
theorem Eh:Gl call k (n+1) v0 v1 v2 w3 w4 v5 v6 v7=
 bif au (v7.toInt) (v6.toInt)then
 bif aj (0) (v7.toInt)&&au (v7.toInt) ((v5.toList.length:Int))then
 let c0:=call 81 [.pv (.st 55) (PV.agg [(nth default v5.toList v7.toInt.toNat).cell 0,(nth default v5.toList v7.toInt.toNat).cell 1,(nth default v5.toList v7.toInt.toNat).cell 2,(nth default v5.toList v7.toInt.toNat).cell 3,(nth default v5.toList v7.toInt.toNat).cell 4,(nth default v5.toList v7.toInt.toNat).cell 5,(nth default v5.toList v7.toInt.toNat).cell 6,(nth default v5.toList v7.toInt.toNat).cell 7,(nth default v5.toList v7.toInt.toNat).cell 8,(nth default v5.toList v7.toInt.toNat).cell 9,(nth default v5.toList v7.toInt.toNat).cell 10,(nth default v5.toList v7.toInt.toNat).cell 11])]
 bif ab (.sl 3) c0 then
 Gk call k n k v0 v1 v2 w3 w4 v7 v5 v6 v7 (aa c0) (PV.int .i64 ((aa c0).toList.length:Int)) (PV.int .i64 0)
 else
 bif fU 3 c0 then
 ui call k n k v0 v1 v2 w3 w4 v7 v5 v6 v7 (cB c0) (PV.int .i64 ((cB c0).length:Int)) (PV.int .i64 0)
 else
 none
 else
 none
 else
 bif aj ((v1.toList.length:Int)) ((v1.toList.length:Int))&&(aj ((v1.toList.length:Int)) (140737488355328)&&aj ((Nat.cast 1:Int)* (v1.toList.length:Int)) (140737488355328))then
 vz call k k v0 v1 v2 w3 w4 (List.replicate ((v1.toList.length:Int)).toNat (PV.bool false)) (PV.int .i64 (Nat.cast (List.replicate ((v1.toList.length:Int)).toNat (PV.bool false)).length:Int)) (PV.int .i64 0)
 else
 none:=by kernel_rfl
theorem R70:aW Try.prog H0 call k 70 [.pv (.st 25) x0]=
 bif aj (((x0.cell 1).toList.length:Int)) (((x0.cell 1).toList.length:Int))&&(aj (((x0.cell 1).toList.length:Int)) (140737488355328)&&aj ((Nat.cast 8:Int)* ((x0.cell 1).toList.length:Int)) (140737488355328))then
 bif aj (((x0.cell 1).toList.length:Int)) (((x0.cell 1).toList.length:Int))&&(aj (((x0.cell 1).toList.length:Int)) (140737488355328)&&aj ((Nat.cast 24:Int)* ((x0.cell 1).toList.length:Int)) (140737488355328))then
 Gl call k k (x0.cell 0) (x0.cell 1) (x0.cell 2) (List.replicate (((x0.cell 1).toList.length:Int)).toNat (PV.int .i64 0)) (List.replicate (((x0.cell 1).toList.length:Int)).toNat (PV.sl [])) (x0.cell 1) (PV.int .i64 ((x0.cell 1).toList.length:Int)) (PV.int .i64 0)
 else
 none
 else
 none:=by rw[aC];kernel_rfl
end Go.V
namespace Go.V
open Go.Proofs
variable (call:aw) (k m1 m2 m3 n:Nat) (x0 x1 x2 x3 x4 x5 x6 x7 x8 x9:PV) (v0:PV) (w0:List PV) (u0:Nat) (v1:PV) (w1:List PV) (u1:Nat) (v2:PV) (w2:List PV) (u2:Nat) (v3:PV) (w3:List PV) (u3:Nat) (v4:PV) (w4:List PV) (u4:Nat) (v5:PV) (w5:List PV) (u5:Nat) (v6:PV) (w6:List PV) (u6:Nat) (v7:PV) (w7:List PV) (u7:Nat) (v8:PV) (w8:List PV) (u8:Nat) (v9:PV) (w9:List PV) (u9:Nat) (v10:PV) (w10:List PV) (u10:Nat) (v11:PV) (w11:List PV) (u11:Nat) (v12:PV) (w12:List PV) (u12:Nat) (v13:PV) (w13:List PV) (u13:Nat) (v14:PV) (w14:List PV) (u14:Nat) (v15:PV) (w15:List PV) (u15:Nat) (v16:PV) (w16:List PV) (u16:Nat) (v17:PV) (w17:List PV) (u17:Nat) (v18:PV) (w18:List PV) (u18:Nat) (v19:PV) (w19:List PV) (u19:Nat) (v20:PV) (w20:List PV) (u20:Nat) (v21:PV) (w21:List PV) (u21:Nat) (v22:PV) (w22:List PV) (u22:Nat) (v23:PV) (w23:List PV) (u23:Nat) (v24:PV) (w24:List PV) (u24:Nat) (v25:PV) (w25:List PV) (u25:Nat) (v26:PV) (w26:List PV) (u26:Nat) (v27:PV) (w27:List PV) (u27:Nat) (v28:PV) (w28:List PV) (u28:Nat) (v29:PV) (w29:List PV) (u29:Nat) (v30:PV) (w30:List PV) (u30:Nat) (v31:PV) (w31:List PV) (u31:Nat) (v32:PV) (w32:List PV) (u32:Nat) (v33:PV) (w33:List PV) (u33:Nat) (v34:PV) (w34:List PV) (u34:Nat) (v35:PV) (w35:List PV) (u35:Nat) (v36:PV) (w36:List PV) (u36:Nat) (v37:PV) (w37:List PV) (u37:Nat) (v38:PV) (w38:List PV) (u38:Nat) (v39:PV) (w39:List PV) (u39:Nat) (v40:PV) (w40:List PV) (u40:Nat) (v41:PV) (w41:List PV) (u41:Nat) (v42:PV) (w42:List PV) (u42:Nat) (v43:PV) (w43:List PV) (u43:Nat) (v44:PV) (w44:List PV) (u44:Nat) (v45:PV) (w45:List PV) (u45:Nat) (v46:PV) (w46:List PV) (u46:Nat) (v47:PV) (w47:List PV) (u47:Nat) (v48:PV) (w48:List PV) (u48:Nat) (v49:PV) (w49:List PV) (u49:Nat) (v50:PV) (w50:List PV) (u50:Nat) (v51:PV) (w51:List PV) (u51:Nat) (v52:PV) (w52:List PV) (u52:Nat) (v53:PV) (w53:List PV) (u53:Nat) (v54:PV) (w54:List PV) (u54:Nat) (v55:PV) (w55:List PV) (u55:Nat) (v56:PV) (w56:List PV) (u56:Nat) (v57:PV) (w57:List PV) (u57:Nat) (v58:PV) (w58:List PV) (u58:Nat) (v59:PV) (w59:List PV) (u59:Nat)
noncomputable def Ln:R:=jn call k 5 2 [.b,.a,.b,.x,.a] (dd:: .o (.box 25 [.pv (.int .i64) v0, .pv (.sl 55) v1, .pv (.sl 3) v2])::ds 19 (oB v3::ds 47 []))
noncomputable def Ei:R:=jn call k 5 7 [.b,.b,.a,.b,.aD,.lp n,.b,.b,.a,.aD,.b,.a,.b,.x,.a] (dd:: .o (.box 25 [.pv (.int .i64) v0, .pv (.sl 55) v1, .pv (.sl 3) v2])::dd::dd:: .o (.box 55 [.pv Ty.str v3, .pv Ty.str v4, .pv (.int .i64) v5, .pv (.int .i64) v6, .pv (.sl 128) v7, .pv Ty.str v8, .pv (.int .i64) v9, .pv (.int .i64) v10, .pv Ty.str v11, .pv Ty.str v12, .pv (.sl 3) v13, .pv (.sl 25) v14])::ds 17 (AV.ptr 1 [] 1::oL 55 v15::oI v16::oI v17::ds 30 (oB v18::ds 12 [])))
noncomputable def N7:R:=lq call k 5 n [.b,.b,.a,.b,.aD,.lp m1,.b,.b,.a,.aD,.b,.b,.b,.aD] (dd:: .o (.box 25 [.pv (.int .i64) v0, .pv (.sl 55) v1, .pv (.sl 3) v2])::dd::dd:: .o (.box 55 [.pv Ty.str v3, .pv Ty.str v4, .pv (.int .i64) v5, .pv (.int .i64) v6, .pv (.sl 128) v7, .pv Ty.str v8, .pv (.int .i64) v9, .pv (.int .i64) v10, .pv Ty.str v11, .pv Ty.str v12, .pv (.sl 3) v13, .pv (.sl 25) v14])::ds 17 (AV.ptr 1 [] 1::oL 55 v15::oI v16::oI v17::ds 31 (AV.ptr 4 [] 11::oL 25 v18::oI v19::oI v20::ds 8 [])))
noncomputable def Lo:R:=lq call k 5 n [.b,.b,.a,.b,.aD] (dd:: .o (.box 25 [.pv (.int .i64) v0, .pv (.sl 55) v1, .pv (.sl 3) v2])::ds 20 (AV.ptr 1 [] 1::oL 55 v3::oI v4::oI v5::ds 43 []))
theorem N8:Ln call k v0 v1 v2 v3=
 some ([.pv .bool (PV.bool false)],[]):=by rw[Ln,aE];kernel_rfl
theorem N9:Ei call k n v0 v1 v2 v3 v4 v5 v6 v7 v8 v9 v10 v11 v12 v13 v14 v15 v16 v17 v18=
 some ([.pv .bool (PV.bool false)],[]):=by rw[Ei,aE];kernel_rfl
theorem Ij:N7 call k m1 (n+1) v0 v1 v2 v3 v4 v5 v6 v7 v8 v9 v10 v11 v12 v13 v14 v15 v16 v17 v18 v19 v20=
 bif au (v20.toInt) (v19.toInt)then
 bif aj (0) (v20.toInt)&&au (v20.toInt) ((v18.toList.length:Int))then
 let c1:=call 5 [.pv (.st 25) (PV.agg [(nth default v18.toList v20.toInt.toNat).cell 0,(nth default v18.toList v20.toInt.toNat).cell 1,(nth default v18.toList v20.toInt.toNat).cell 2])]
 bif ab .bool c1 then
 bif !(aa c1).toBool then
 some ([.pv .bool (PV.bool false)],[])
 else
 N7 call k m1 n v0 v1 v2 v3 v4 v5 v6 v7 v8 v9 v10 v11 v12 v13 v14 v15 v16 v17 v18 v19 (PV.int .i64 (IntKind.i64.wrap (v20.toInt+1)))
 else
 none
 else
 none
 else
 Lo call k m1 v0 v1 v2 v15 v16 (PV.int .i64 (IntKind.i64.wrap (v17.toInt+1))):=by kernel_rfl
theorem Ik:Lo call k (n+1) v0 v1 v2 v3 v4 v5=
 bif au (v5.toInt) (v4.toInt)then
 bif aj (0) (v5.toInt)&&au (v5.toInt) ((v3.toList.length:Int))then
 bif au (100) ((Nat.cast ((nth default v3.toList v5.toInt.toNat).cell 1).toStr.size:Int))then
 Ei call k n v0 v1 v2 ((nth default v3.toList v5.toInt.toNat).cell 0) ((nth default v3.toList v5.toInt.toNat).cell 1) ((nth default v3.toList v5.toInt.toNat).cell 2) ((nth default v3.toList v5.toInt.toNat).cell 3) ((nth default v3.toList v5.toInt.toNat).cell 4) ((nth default v3.toList v5.toInt.toNat).cell 5) ((nth default v3.toList v5.toInt.toNat).cell 6) ((nth default v3.toList v5.toInt.toNat).cell 7) ((nth default v3.toList v5.toInt.toNat).cell 8) ((nth default v3.toList v5.toInt.toNat).cell 9) ((nth default v3.toList v5.toInt.toNat).cell 10) ((nth default v3.toList v5.toInt.toNat).cell 11) v3 v4 v5 (PV.bool true)
 else
 bif au (100) ((Nat.cast ((nth default v3.toList v5.toInt.toNat).cell 0).toStr.size:Int))then
 Ei call k n v0 v1 v2 ((nth default v3.toList v5.toInt.toNat).cell 0) ((nth default v3.toList v5.toInt.toNat).cell 1) ((nth default v3.toList v5.toInt.toNat).cell 2) ((nth default v3.toList v5.toInt.toNat).cell 3) ((nth default v3.toList v5.toInt.toNat).cell 4) ((nth default v3.toList v5.toInt.toNat).cell 5) ((nth default v3.toList v5.toInt.toNat).cell 6) ((nth default v3.toList v5.toInt.toNat).cell 7) ((nth default v3.toList v5.toInt.toNat).cell 8) ((nth default v3.toList v5.toInt.toNat).cell 9) ((nth default v3.toList v5.toInt.toNat).cell 10) ((nth default v3.toList v5.toInt.toNat).cell 11) v3 v4 v5 (PV.bool true)
 else
 bif au (100) ((Nat.cast ((nth default v3.toList v5.toInt.toNat).cell 10).toList.length:Int))then
 Ei call k n v0 v1 v2 ((nth default v3.toList v5.toInt.toNat).cell 0) ((nth default v3.toList v5.toInt.toNat).cell 1) ((nth default v3.toList v5.toInt.toNat).cell 2) ((nth default v3.toList v5.toInt.toNat).cell 3) ((nth default v3.toList v5.toInt.toNat).cell 4) ((nth default v3.toList v5.toInt.toNat).cell 5) ((nth default v3.toList v5.toInt.toNat).cell 6) ((nth default v3.toList v5.toInt.toNat).cell 7) ((nth default v3.toList v5.toInt.toNat).cell 8) ((nth default v3.toList v5.toInt.toNat).cell 9) ((nth default v3.toList v5.toInt.toNat).cell 10) ((nth default v3.toList v5.toInt.toNat).cell 11) v3 v4 v5 (PV.bool true)
 else
 bif au (300) ((Nat.cast ((nth default v3.toList v5.toInt.toNat).cell 4).toList.length:Int))then
 Ei call k n v0 v1 v2 ((nth default v3.toList v5.toInt.toNat).cell 0) ((nth default v3.toList v5.toInt.toNat).cell 1) ((nth default v3.toList v5.toInt.toNat).cell 2) ((nth default v3.toList v5.toInt.toNat).cell 3) ((nth default v3.toList v5.toInt.toNat).cell 4) ((nth default v3.toList v5.toInt.toNat).cell 5) ((nth default v3.toList v5.toInt.toNat).cell 6) ((nth default v3.toList v5.toInt.toNat).cell 7) ((nth default v3.toList v5.toInt.toNat).cell 8) ((nth default v3.toList v5.toInt.toNat).cell 9) ((nth default v3.toList v5.toInt.toNat).cell 10) ((nth default v3.toList v5.toInt.toNat).cell 11) v3 v4 v5 (PV.bool true)
 else
 bif au (4) ((Nat.cast ((nth default v3.toList v5.toInt.toNat).cell 11).toList.length:Int))then
 Ei call k n v0 v1 v2 ((nth default v3.toList v5.toInt.toNat).cell 0) ((nth default v3.toList v5.toInt.toNat).cell 1) ((nth default v3.toList v5.toInt.toNat).cell 2) ((nth default v3.toList v5.toInt.toNat).cell 3) ((nth default v3.toList v5.toInt.toNat).cell 4) ((nth default v3.toList v5.toInt.toNat).cell 5) ((nth default v3.toList v5.toInt.toNat).cell 6) ((nth default v3.toList v5.toInt.toNat).cell 7) ((nth default v3.toList v5.toInt.toNat).cell 8) ((nth default v3.toList v5.toInt.toNat).cell 9) ((nth default v3.toList v5.toInt.toNat).cell 10) ((nth default v3.toList v5.toInt.toNat).cell 11) v3 v4 v5 (PV.bool true)
 else
 N7 call k n k v0 v1 v2 ((nth default v3.toList v5.toInt.toNat).cell 0) ((nth default v3.toList v5.toInt.toNat).cell 1) ((nth default v3.toList v5.toInt.toNat).cell 2) ((nth default v3.toList v5.toInt.toNat).cell 3) ((nth default v3.toList v5.toInt.toNat).cell 4) ((nth default v3.toList v5.toInt.toNat).cell 5) ((nth default v3.toList v5.toInt.toNat).cell 6) ((nth default v3.toList v5.toInt.toNat).cell 7) ((nth default v3.toList v5.toInt.toNat).cell 8) ((nth default v3.toList v5.toInt.toNat).cell 9) ((nth default v3.toList v5.toInt.toNat).cell 10) ((nth default v3.toList v5.toInt.toNat).cell 11) v3 v4 v5 ((nth default v3.toList v5.toInt.toNat).cell 11) (PV.int .i64 (Nat.cast ((nth default v3.toList v5.toInt.toNat).cell 11).toList.length:Int)) (PV.int .i64 0)
 else
 none
 else
 some ([.pv .bool (PV.bool true)],[]):=by kernel_rfl
theorem R5:aW Try.prog H0 call k 5 [.pv (.st 25) x0]=
 bif au (60) (((x0.cell 1).toList.length:Int))then
 Ln call k (x0.cell 0) (x0.cell 1) (x0.cell 2) (PV.bool true)
 else
 bif au (100) (((x0.cell 2).toList.length:Int))then
 Ln call k (x0.cell 0) (x0.cell 1) (x0.cell 2) (PV.bool true)
 else
 let c0:=call 17 [.pv (.st 25) (PV.agg [x0.cell 0,x0.cell 1,x0.cell 2])]
 bif ab (.int .i64) c0 then
 bif au (100) ((aa c0).toInt)then
 Ln call k (x0.cell 0) (x0.cell 1) (x0.cell 2) (PV.bool true)
 else
 Lo call k k (x0.cell 0) (x0.cell 1) (x0.cell 2) (x0.cell 1) (PV.int .i64 ((x0.cell 1).toList.length:Int)) (PV.int .i64 0)
 else
 none:=by rw[aC];kernel_rfl
noncomputable def Gm:R:=lq call k 15 n [.b,.b,.a,.b,.aD] (dd:: .o (.box 36 [.pv (.sl 47) v0, .pv (.sl 57) v1, .pv (.int .i64) v2, .pv .bool v3])::dd::oI v4::ds 5 (AV.ptr 1 [] 0::oL 47 v5::oI v6::oI v7::ds 12 []))
theorem Ej:Gm call k (n+1) v0 v1 v2 v3 v4 v5 v6 v7=
 bif au (v7.toInt) (v6.toInt)then
 bif aj (0) (v7.toInt)&&au (v7.toInt) ((v5.toList.length:Int))then
 Gm call k n v0 v1 v2 v3 (PV.int .i64 (IntKind.i64.wrap (v4.toInt+IntKind.i64.wrap (1+(Nat.cast ((nth default v5.toList v7.toInt.toNat).cell 0).toList.length:Int))))) v5 v6 (PV.int .i64 (IntKind.i64.wrap (v7.toInt+1)))
 else
 none
 else
 some ([.pv .bool (PV.bool (aj (v4.toInt) (300)))],[]):=by kernel_rfl
theorem R15:aW Try.prog H0 call k 15 [.pv (.st 36) x0]=
 Gm call k k (x0.cell 0) (x0.cell 1) (x0.cell 2) (x0.cell 3) (PV.int .i64 ((x0.cell 1).toList.length:Int)) (x0.cell 0) (PV.int .i64 ((x0.cell 0).toList.length:Int)) (PV.int .i64 0):=by rw[aC];kernel_rfl
theorem R18:aW Try.prog H0 call k 18 [.pv (.st 25) x0, .pv (.int .i64) x1]=
 let c0:=call 37 [.pv (.st 25) (PV.agg [x0.cell 0,x0.cell 1,x0.cell 2])]
 bif ab .bool c0 then
 bif (aa c0).toBool then
 bif aj (1) (x1.toInt)then
 some ([.pv .bool (PV.bool (aj (x1.toInt) (64)))],[])
 else
 some ([.pv .bool (PV.bool false)],[])
 else
 some ([.pv .bool (PV.bool false)],[])
 else
 none:=by rw[aC];kernel_rfl
theorem R21:aW Try.prog H0 call k 21 [.pv (.st 25) x0, .pv (.int .i64) x1]=
 bif aj (1) (x1.toInt)then
 bif aj (x1.toInt) (64)then
 let c0:=call 40 [.pv (.st 25) (PV.agg [x0.cell 0,x0.cell 1,x0.cell 2])]
 bif ab .bool c0 then
 some ([.pv .bool (aa c0)],[])
 else
 none
 else
 some ([.pv .bool (PV.bool false)],[])
 else
 some ([.pv .bool (PV.bool false)],[]):=by rw[aC];kernel_rfl
end Go.V
namespace Go.V
open Go.Proofs
variable (call:aw) (k m1 m2 m3 n:Nat) (x0 x1 x2 x3 x4 x5 x6 x7 x8 x9:PV) (v0:PV) (w0:List PV) (u0:Nat) (v1:PV) (w1:List PV) (u1:Nat) (v2:PV) (w2:List PV) (u2:Nat) (v3:PV) (w3:List PV) (u3:Nat) (v4:PV) (w4:List PV) (u4:Nat) (v5:PV) (w5:List PV) (u5:Nat) (v6:PV) (w6:List PV) (u6:Nat) (v7:PV) (w7:List PV) (u7:Nat) (v8:PV) (w8:List PV) (u8:Nat) (v9:PV) (w9:List PV) (u9:Nat) (v10:PV) (w10:List PV) (u10:Nat) (v11:PV) (w11:List PV) (u11:Nat) (v12:PV) (w12:List PV) (u12:Nat) (v13:PV) (w13:List PV) (u13:Nat) (v14:PV) (w14:List PV) (u14:Nat) (v15:PV) (w15:List PV) (u15:Nat) (v16:PV) (w16:List PV) (u16:Nat) (v17:PV) (w17:List PV) (u17:Nat) (v18:PV) (w18:List PV) (u18:Nat) (v19:PV) (w19:List PV) (u19:Nat) (v20:PV) (w20:List PV) (u20:Nat) (v21:PV) (w21:List PV) (u21:Nat) (v22:PV) (w22:List PV) (u22:Nat) (v23:PV) (w23:List PV) (u23:Nat) (v24:PV) (w24:List PV) (u24:Nat) (v25:PV) (w25:List PV) (u25:Nat) (v26:PV) (w26:List PV) (u26:Nat) (v27:PV) (w27:List PV) (u27:Nat) (v28:PV) (w28:List PV) (u28:Nat) (v29:PV) (w29:List PV) (u29:Nat) (v30:PV) (w30:List PV) (u30:Nat) (v31:PV) (w31:List PV) (u31:Nat) (v32:PV) (w32:List PV) (u32:Nat) (v33:PV) (w33:List PV) (u33:Nat) (v34:PV) (w34:List PV) (u34:Nat) (v35:PV) (w35:List PV) (u35:Nat) (v36:PV) (w36:List PV) (u36:Nat) (v37:PV) (w37:List PV) (u37:Nat) (v38:PV) (w38:List PV) (u38:Nat) (v39:PV) (w39:List PV) (u39:Nat) (v40:PV) (w40:List PV) (u40:Nat) (v41:PV) (w41:List PV) (u41:Nat) (v42:PV) (w42:List PV) (u42:Nat) (v43:PV) (w43:List PV) (u43:Nat) (v44:PV) (w44:List PV) (u44:Nat) (v45:PV) (w45:List PV) (u45:Nat) (v46:PV) (w46:List PV) (u46:Nat) (v47:PV) (w47:List PV) (u47:Nat) (v48:PV) (w48:List PV) (u48:Nat) (v49:PV) (w49:List PV) (u49:Nat) (v50:PV) (w50:List PV) (u50:Nat) (v51:PV) (w51:List PV) (u51:Nat) (v52:PV) (w52:List PV) (u52:Nat) (v53:PV) (w53:List PV) (u53:Nat) (v54:PV) (w54:List PV) (u54:Nat) (v55:PV) (w55:List PV) (u55:Nat) (v56:PV) (w56:List PV) (u56:Nat) (v57:PV) (w57:List PV) (u57:Nat) (v58:PV) (w58:List PV) (u58:Nat) (v59:PV) (w59:List PV) (u59:Nat)
noncomputable def zw:R:=jn call k 13 18 [.b,.b,.b,.b,.b,.b,.a,.b,.aD,.lp m1,.b,.b,.a,.aD,.b,.b,.a,.b,.aD,.lp n,.b,.b,.a,.aD,.b,.b,.b,.x,.a] (dd::dd::dd:: .o (.box 36 [.pv (.sl 47) v0, .pv (.sl 57) v1, .pv (.int .i64) v2, .pv .bool v3])::dd::oL 80 v4::dd:: .o (.box 65 [.pv (.sl 23) v5, .pv (.sl 23) v6])::oI v7:: .o (.box 80 [.pv (.int .i64) v8, .pv (.int .i64) v9])::ds 15 (oL 80 v10::ds 20 (oI v11::oI v12::ds 6 (AV.ptr 7 [] 0::oL 23 v13::dd:: .ip 23 v14 0::oL 3 v15::oI v16::oI v17::ds 25 (oB v18::ds 46 [])))))
noncomputable def zx:R:=jn call k 13 19 [.b,.b,.b,.b,.b,.b,.a,.b,.aD,.lp m1,.b,.b,.a,.aD,.b,.b,.a,.b,.aD,.lp n,.b,.b,.b] (dd::dd::dd:: .o (.box 36 [.pv (.sl 47) v0, .pv (.sl 57) v1, .pv (.int .i64) v2, .pv .bool v3])::dd::oL 80 v4::dd:: .o (.box 65 [.pv (.sl 23) v5, .pv (.sl 23) v6])::oI v7:: .o (.box 80 [.pv (.int .i64) v8, .pv (.int .i64) v9])::ds 15 (oL 80 v10::ds 20 (oI v11::oI v12::ds 6 (AV.ptr 7 [] 0::oL 23 v13::dd:: .ip 23 v14 0::oL 3 v15::oI v16::oI v17::ds 72 []))))
noncomputable def zy:R:=jn call k 13 25 [.b,.b,.b,.b,.b,.b,.a,.b,.aD,.lp m1,.b,.b,.a,.aD,.b,.b,.b,.b,.aD,.lp n,.b,.b,.a,.aD,.b,.b,.b,.x,.a] (dd::dd::dd:: .o (.box 36 [.pv (.sl 47) v0, .pv (.sl 57) v1, .pv (.int .i64) v2, .pv .bool v3])::dd::oL 80 v4::dd:: .o (.box 65 [.pv (.sl 23) v5, .pv (.sl 23) v6])::dd:: .o (.box 80 [.pv (.int .i64) v7, .pv (.int .i64) v8])::ds 15 (oL 80 v9::ds 20 (oI v10::oI v11::ds 40 (AV.ptr 7 [] 1::oL 23 v12::dd:: .ip 23 v13 0::oL 3 v14::oI v15::oI v16::ds 35 ([oB v17,dd,dd])))))
noncomputable def vA:R:=jn call k 13 26 [.b,.b,.b,.b,.b,.b,.a,.b,.aD,.lp m1,.b,.b,.a,.aD,.b,.b,.b,.b,.aD,.lp n,.b,.b,.b] (dd::dd::dd:: .o (.box 36 [.pv (.sl 47) v0, .pv (.sl 57) v1, .pv (.int .i64) v2, .pv .bool v3])::dd::oL 80 v4::dd:: .o (.box 65 [.pv (.sl 23) v5, .pv (.sl 23) v6])::dd:: .o (.box 80 [.pv (.int .i64) v7, .pv (.int .i64) v8])::ds 15 (oL 80 v9::ds 20 (oI v10::oI v11::ds 40 (AV.ptr 7 [] 1::oL 23 v12::dd:: .ip 23 v13 0::oL 3 v14::oI v15::oI v16::ds 38 []))))
noncomputable def zz:R:=lq call k 13 n [.b,.b,.b,.b,.b,.b,.a,.b,.aD,.lp m1,.b,.b,.a,.aD,.b,.b,.b,.b,.aD] (dd::dd::dd:: .o (.box 36 [.pv (.sl 47) v0, .pv (.sl 57) v1, .pv (.int .i64) v2, .pv .bool v3])::dd::oL 80 v4::dd:: .o (.box 65 [.pv (.sl 23) v5, .pv (.sl 23) v6])::dd:: .o (.box 80 [.pv (.int .i64) v7, .pv (.int .i64) v8])::ds 15 (oL 80 v9::ds 20 (oI v10::oI v11::ds 40 (AV.ptr 7 [] 1::oL 23 v12::dd:: .ip 23 v13 0::oL 3 v14::oI v15::oI v16::ds 38 []))))
noncomputable def zA:R:=lq call k 13 n [.b,.b,.b,.b,.b,.b,.a,.b,.aD,.lp m1,.b,.b,.a,.aD,.b,.b,.a,.b,.aD] (dd::dd::dd:: .o (.box 36 [.pv (.sl 47) v0, .pv (.sl 57) v1, .pv (.int .i64) v2, .pv .bool v3])::dd::oL 80 v4::dd:: .o (.box 65 [.pv (.sl 23) v5, .pv (.sl 23) v6])::oI v7:: .o (.box 80 [.pv (.int .i64) v8, .pv (.int .i64) v9])::ds 15 (oL 80 v10::ds 20 (oI v11::oI v12::ds 6 (AV.ptr 7 [] 0::oL 23 v13::dd:: .ip 23 v14 0::oL 3 v15::oI v16::oI v17::ds 72 []))))
noncomputable def so:R:=lq call k 13 n [.b,.b,.b,.b,.b,.b,.a,.b,.aD] (dd::dd::dd:: .o (.box 36 [.pv (.sl 47) v0, .pv (.sl 57) v1, .pv (.int .i64) v2, .pv .bool v3])::dd::oL 80 v4::dd:: .o (.box 65 [.pv (.sl 23) v5, .pv (.sl 23) v6])::ds 17 (oL 80 v7::ds 20 (oI v8::oI v9::ds 85 [])))
noncomputable def Gn:R:=jn call k 13 8 [.b,.b,.b,.b,.b,.a] (dd::dd:: .o (.box 25 [.pv (.int .i64) v0, .pv (.sl 55) v1, .pv (.sl 3) v2]):: .o (.box 36 [.pv (.sl 47) v3, .pv (.sl 57) v4, .pv (.int .i64) v5, .pv .bool v6])::dd::oL 80 v7::ds 19 (oL 80 v8::ds 107 []))
theorem Il:zw call k m1 n v0 v1 v2 v3 v4 v5 v6 v7 v8 v9 v10 v11 v12 v13 v14 v15 v16 v17 v18=
 some ([.pv (.int .i64) (PV.int .i64 150)],[]):=by rw[zw,aE];kernel_rfl
theorem Im:zx call k m1 n v0 v1 v2 v3 v4 v5 v6 v7 v8 v9 v10 v11 v12 v13 v14 v15 v16 v17=
 zA call k m1 n v0 v1 v2 v3 v4 v5 v6 v7 v8 v9 v10 v11 v12 v13 v14 v15 v16 (PV.int .i64 (IntKind.i64.wrap (v17.toInt+1))):=by rw[zx,aE];kernel_rfl
theorem Io:zy call k m1 n v0 v1 v2 v3 v4 v5 v6 v7 v8 v9 v10 v11 v12 v13 v14 v15 v16 v17=
 some ([.pv (.int .i64) (PV.int .i64 150)],[]):=by rw[zy,aE];kernel_rfl
theorem Ip:vA call k m1 n v0 v1 v2 v3 v4 v5 v6 v7 v8 v9 v10 v11 v12 v13 v14 v15 v16=
 zz call k m1 n v0 v1 v2 v3 v4 v5 v6 v7 v8 v9 v10 v11 v12 v13 v14 v15 (PV.int .i64 (IntKind.i64.wrap (v16.toInt+1))):=by rw[vA,aE];kernel_rfl
theorem BS:zz call k m1 (n+1) v0 v1 v2 v3 v4 v5 v6 v7 v8 v9 v10 v11 v12 v13 v14 v15 v16=
 bif au (v16.toInt) (v15.toInt)then
 bif aj (0) (v16.toInt)&&au (v16.toInt) ((v14.toList.length:Int))then
 bif aj (0) ((nth default v14.toList v16.toInt.toNat).toInt)&&au ((nth default v14.toList v16.toInt.toNat).toInt) ((v4.toList.length:Int))then
 bif au (v7.toInt) (((nth default v4.toList (nth default v14.toList v16.toInt.toNat).toInt.toNat).cell 0).toInt)then
 zy call k m1 n v0 v1 v2 v3 v4 v5 v6 v7 v8 v9 v10 v11 v12 v13 v14 v15 v16 (PV.bool true)
 else
 bif ak (((nth default v4.toList (nth default v14.toList v16.toInt.toNat).toInt.toNat).cell 0).toInt) (v7.toInt)then
 bif aj (v8.toInt) (((nth default v4.toList (nth default v14.toList v16.toInt.toNat).toInt.toNat).cell 1).toInt)then
 bif aj (0) (v7.toInt)&&au (v7.toInt) ((v0.toList.length:Int))then
 bif !((nth default v0.toList v7.toInt.toNat).cell 1).toBool then
 zy call k m1 n v0 v1 v2 v3 v4 v5 v6 v7 v8 v9 v10 v11 v12 v13 v14 v15 v16 (PV.bool true)
 else
 vA call k m1 n v0 v1 v2 v3 v4 v5 v6 v7 v8 v9 v10 v11 v12 v13 v14 v15 v16
 else
 none
 else
 vA call k m1 n v0 v1 v2 v3 v4 v5 v6 v7 v8 v9 v10 v11 v12 v13 v14 v15 v16
 else
 vA call k m1 n v0 v1 v2 v3 v4 v5 v6 v7 v8 v9 v10 v11 v12 v13 v14 v15 v16
 else
 none
 else
 none
 else
 so call k m1 v0 v1 v2 v3 v4 v5 v6 v9 v10 (PV.int .i64 (IntKind.i64.wrap (v11.toInt+1))):=by kernel_rfl
theorem BT:zA call k m1 (n+1) v0 v1 v2 v3 v4 v5 v6 v7 v8 v9 v10 v11 v12 v13 v14 v15 v16 v17=
 bif au (v17.toInt) (v16.toInt)then
 bif aj (0) (v17.toInt)&&au (v17.toInt) ((v15.toList.length:Int))then
 bif aj (0) ((nth default v15.toList v17.toInt.toNat).toInt)&&au ((nth default v15.toList v17.toInt.toNat).toInt) ((v4.toList.length:Int))then
 bif au (v8.toInt) (((nth default v4.toList (nth default v15.toList v17.toInt.toNat).toInt.toNat).cell 0).toInt)then
 zw call k m1 n v0 v1 v2 v3 v4 v5 v6 v7 v8 v9 v10 v11 v12 v13 v14 v15 v16 v17 (PV.bool true)
 else
 bif ak (((nth default v4.toList (nth default v15.toList v17.toInt.toNat).toInt.toNat).cell 0).toInt) (v8.toInt)then
 bif aj (v9.toInt) (((nth default v4.toList (nth default v15.toList v17.toInt.toNat).toInt.toNat).cell 1).toInt)then
 zw call k m1 n v0 v1 v2 v3 v4 v5 v6 v7 v8 v9 v10 v11 v12 v13 v14 v15 v16 v17 (PV.bool true)
 else
 zx call k m1 n v0 v1 v2 v3 v4 v5 v6 v7 v8 v9 v10 v11 v12 v13 v14 v15 v16 v17
 else
 zx call k m1 n v0 v1 v2 v3 v4 v5 v6 v7 v8 v9 v10 v11 v12 v13 v14 v15 v16 v17
 else
 none
 else
 none
 else
 bif aj (0) (v7.toInt)&&au (v7.toInt) ((v6.toList.length:Int))then
 zz call k m1 k v0 v1 v2 v3 v4 v5 v6 v8 v9 v10 v11 v12 v6 (nth default v6.toList v7.toInt.toNat) (nth default v6.toList v7.toInt.toNat) (PV.int .i64 ((nth default v6.toList v7.toInt.toNat).toList.length:Int)) (PV.int .i64 0)
 else
 none:=by kernel_rfl
theorem BU:so call k (n+1) v0 v1 v2 v3 v4 v5 v6 v7 v8 v9=
 bif au (v9.toInt) (v8.toInt)then
 bif aj (0) (v9.toInt)&&au (v9.toInt) ((v4.toList.length:Int))then
 bif aj (0) (v9.toInt)&&au (v9.toInt) ((v5.toList.length:Int))then
 zA call k n k v0 v1 v2 v3 v4 v5 v6 v9 ((nth default v4.toList v9.toInt.toNat).cell 0) ((nth default v4.toList v9.toInt.toNat).cell 1) v7 v8 v9 v5 (nth default v5.toList v9.toInt.toNat) (nth default v5.toList v9.toInt.toNat) (PV.int .i64 ((nth default v5.toList v9.toInt.toNat).toList.length:Int)) (PV.int .i64 0)
 else
 none
 else
 none
 else
 some ([.pv (.int .i64) (PV.int .i64 0)],[]):=by kernel_rfl
theorem Lp:Gn call k v0 v1 v2 v3 v4 v5 v6 v7 v8=
 let c4:=call 22 [.pv (.st 25) (PV.agg [v0,v1,v2]), .pv (.int .i64) v5]
 bif ab (.st 65) c4 then
 so call k k v3 v4 v5 v6 v7 ((aa c4).cell 0) ((aa c4).cell 1) v8 (PV.int .i64 (v1.toList.length:Int)) (PV.int .i64 0)
 else
 none:=by rw[Gn,aE];kernel_rfl
theorem R13:aW Try.prog H0 call k 13 [.pv (.st 25) x0, .pv (.st 36) x1]=
 let c0:=call 21 [.pv (.st 25) (PV.agg [x0.cell 0,x0.cell 1,x0.cell 2]), .pv (.int .i64) (x1.cell 2)]
 bif ab .bool c0 then
 bif !(aa c0).toBool then
 some ([.pv (.int .i64) (PV.int .i64 2)],[])
 else
 let c1:=call 34 [.pv (.st 25) (PV.agg [x0.cell 0,x0.cell 1,x0.cell 2]), .pv (.st 36) (PV.agg [x1.cell 0,x1.cell 1,x1.cell 2,x1.cell 3])]
 bif cc (List.map (ai Try.prog) #[75,29].toList) c1 then
 bif !ak ((bk 1 c1).toInt) (0)then
 some ([.pv (.int .i64) (bk 1 c1)],[])
 else
 let c2:=call 28 [.pv (.st 25) (PV.agg [x0.cell 0,x0.cell 1,x0.cell 2]), .pv (.int .i64) (x1.cell 2), .pv .bool (x1.cell 3)]
 bif ab (.sl 57) c2 then
 let c3:=call 35 [.pv (.sl 57) (x1.cell 1), .pv (.sl 57) (aa c2)]
 bif ab .bool c3 then
 bif !(aa c3).toBool then
 some ([.pv (.int .i64) (PV.int .i64 150)],[])
 else
 Gn call k (x0.cell 0) (x0.cell 1) (x0.cell 2) (x1.cell 0) (x1.cell 1) (x1.cell 2) (x1.cell 3) (bk 0 c1) (bk 0 c1)
 else
 none
 else
 bif fU 57 c2 then
 let c5:=call 35 [.pv (.sl 57) (x1.cell 1), .pv (.sl 57) (PV.sl (cB c2))]
 bif eG (di [.pv (.sl 57) (x1.cell 1), .pv (.sl 57) (PV.sl (cB c2))]) c5&&true then
 bif ab .bool c5 then
 bif !(aa c5).toBool then
 some ([.pv (.int .i64) (PV.int .i64 150)],[])
 else
 Gn call k (x0.cell 0) (x0.cell 1) (x0.cell 2) (x1.cell 0) (x1.cell 1) (x1.cell 2) (x1.cell 3) (bk 0 c1) (bk 0 c1)
 else
 none
 else
 none
 else
 none
 else
 none
 else
 none:=by rw[aC];kernel_rfl
noncomputable def sq:R:=jn call k 22 14 [.b,.b,.a,.b,.aD,.lp m1,.b,.b,.a,.aD,.b,.b,.b,.aD,.lp n,.b,.b,.b] (dd::oI v0:: .o (.box 25 [.pv (.int .i64) v1, .pv (.sl 55) v2, .pv (.sl 3) v3])::dd:: .o (.box 65 [.arr 23 w4, .arr 23 w5]):: .o (.box 65 [.own 23 3 w6 none, .own 23 3 w7 none])::oI v8:: .o (.box 55 [.pv Ty.str v9, .pv Ty.str v10, .pv (.int .i64) v11, .pv (.int .i64) v12, .pv (.sl 128) v13, .pv Ty.str v14, .pv (.int .i64) v15, .pv (.int .i64) v16, .pv Ty.str v17, .pv Ty.str v18, .pv (.sl 3) v19, .pv (.sl 25) v20])::oB v21::ds 11 (AV.ptr 2 [] 1::oL 55 v22::oI v23::oI v24::ds 27 (AV.ptr 7 [] 10::oL 3 v25::oI v26::oI v27::ds 41 [])))
noncomputable def Gp:R:=lq call k 22 n [.b,.b,.a,.b,.aD,.lp m1,.b,.b,.a,.aD,.b,.b,.b,.aD] (dd::oI v0:: .o (.box 25 [.pv (.int .i64) v1, .pv (.sl 55) v2, .pv (.sl 3) v3])::dd:: .o (.box 65 [.arr 23 w4, .arr 23 w5]):: .o (.box 65 [.own 23 3 w6 none, .own 23 3 w7 none])::oI v8:: .o (.box 55 [.pv Ty.str v9, .pv Ty.str v10, .pv (.int .i64) v11, .pv (.int .i64) v12, .pv (.sl 128) v13, .pv Ty.str v14, .pv (.int .i64) v15, .pv (.int .i64) v16, .pv Ty.str v17, .pv Ty.str v18, .pv (.sl 3) v19, .pv (.sl 25) v20])::oB v21::ds 11 (AV.ptr 2 [] 1::oL 55 v22::oI v23::oI v24::ds 27 (AV.ptr 7 [] 10::oL 3 v25::oI v26::oI v27::ds 41 [])))
noncomputable def vB:R:=jn call k 22 6 [.b,.b,.a,.b,.aD,.lp n,.b,.b,.a,.aD,.b,.b,.a] (dd::oI v0:: .o (.box 25 [.pv (.int .i64) v1, .pv (.sl 55) v2, .pv (.sl 3) v3])::dd:: .o (.box 65 [.arr 23 w4, .arr 23 w5]):: .o (.box 65 [.own 23 3 w6 none, .own 23 3 w7 none])::oI v8:: .o (.box 55 [.pv Ty.str v9, .pv Ty.str v10, .pv (.int .i64) v11, .pv (.int .i64) v12, .pv (.sl 128) v13, .pv Ty.str v14, .pv (.int .i64) v15, .pv (.int .i64) v16, .pv Ty.str v17, .pv Ty.str v18, .pv (.sl 3) v19, .pv (.sl 25) v20])::oB v21::ds 11 (AV.ptr 2 [] 1::oL 55 v22::oI v23::oI v24::ds 72 []))
noncomputable def BV:R:=lq call k 22 n [.b,.b,.a,.b,.aD] (dd::oI v0:: .o (.box 25 [.pv (.int .i64) v1, .pv (.sl 55) v2, .pv (.sl 3) v3])::dd:: .o (.box 65 [.arr 23 w4, .arr 23 w5]):: .o (.box 65 [.own 23 3 w6 none, .own 23 3 w7 none])::ds 14 (AV.ptr 2 [] 1::oL 55 v8::oI v9::oI v10::ds 72 []))
theorem Iq:sq call k m1 n v0 v1 v2 v3 w4 w5 w6 w7 v8 v9 v10 v11 v12 v13 v14 v15 v16 v17 v18 v19 v20 v21 v22 v23 v24 v25 v26 v27=
 Gp call k m1 n v0 v1 v2 v3 w4 w5 w6 w7 v8 v9 v10 v11 v12 v13 v14 v15 v16 v17 v18 v19 v20 v21 v22 v23 v24 v25 v26 (PV.int .i64 (IntKind.i64.wrap (v27.toInt+1))):=by rw[sq,aE];kernel_rfl
theorem Ek:Gp call k m1 (n+1) v0 v1 v2 v3 w4 w5 w6 w7 v8 v9 v10 v11 v12 v13 v14 v15 v16 v17 v18 v19 v20 v21 v22 v23 v24 v25 v26 v27=
 bif au (v27.toInt) (v26.toInt)then
 bif aj (0) (v27.toInt)&&au (v27.toInt) ((v25.toList.length:Int))then
 bif au ((nth default v25.toList v27.toInt.toNat).toInt) (0)then
 sq call k m1 n v0 v1 v2 v3 w4 w5 w6 w7 v8 v9 v10 v11 v12 v13 v14 v15 v16 v17 v18 v19 v20 v21 v22 v23 v24 v25 v26 v27
 else
 let c0:=call 41 [.pv (.st 55) (PV.agg [v9,v10,v11,v12,v13,v14,v15,v16,v17,v18,v19,v20]), .pv (.int .i64) v27]
 bif ab .bool c0 then
 bif (aa c0).toBool then
 bif aj (0) (v8.toInt)&&au (v8.toInt) ((w6.length:Int))then
 bif AJ (((nth default w6 v8.toInt.toNat).toList.length+[nth default v25.toList v27.toInt.toNat].reverse.length)*8) (room)then
 bif aj (0) (v8.toInt)&&au (v8.toInt) ((w6.length:Int))then
 bif jo (some v8.toInt.toNat) v8.toInt.toNat&&true then
 sq call k m1 n v0 v1 v2 v3 w4 w5 (w6.set v8.toInt.toNat (PV.sl ((nth default w6 v8.toInt.toNat).toList++[nth default v25.toList v27.toInt.toNat].reverse))) w7 v8 v9 v10 v11 v12 v13 v14 v15 v16 v17 v18 v19 v20 v21 v22 v23 v24 v25 v26 v27
 else
 none
 else
 none
 else
 none
 else
 none
 else
 bif !v21.toBool then
 bif aj (0) (v8.toInt)&&au (v8.toInt) ((w7.length:Int))then
 bif AJ (((nth default w7 v8.toInt.toNat).toList.length+[nth default v25.toList v27.toInt.toNat].reverse.length)*8) (room)then
 bif aj (0) (v8.toInt)&&au (v8.toInt) ((w7.length:Int))then
 bif jo (some v8.toInt.toNat) v8.toInt.toNat&&true then
 sq call k m1 n v0 v1 v2 v3 w4 w5 w6 (w7.set v8.toInt.toNat (PV.sl ((nth default w7 v8.toInt.toNat).toList++[nth default v25.toList v27.toInt.toNat].reverse))) v8 v9 v10 v11 v12 v13 v14 v15 v16 v17 v18 v19 v20 v21 v22 v23 v24 v25 v26 v27
 else
 none
 else
 none
 else
 none
 else
 none
 else
 sq call k m1 n v0 v1 v2 v3 w4 w5 w6 w7 v8 v9 v10 v11 v12 v13 v14 v15 v16 v17 v18 v19 v20 v21 v22 v23 v24 v25 v26 v27
 else
 none
 else
 none
 else
 BV call k m1 v0 v1 v2 v3 w4 w5 w6 w7 v22 v23 (PV.int .i64 (IntKind.i64.wrap (v24.toInt+1))):=by kernel_rfl
theorem Lq:vB call k n v0 v1 v2 v3 w4 w5 w6 w7 v8 v9 v10 v11 v12 v13 v14 v15 v16 v17 v18 v19 v20 v21 v22 v23 v24=
 Gp call k n k v0 v1 v2 v3 w4 w5 w6 w7 v8 v9 v10 v11 v12 v13 v14 v15 v16 v17 v18 v19 v20 v21 v22 v23 v24 v19 (PV.int .i64 (v19.toList.length:Int)) (PV.int .i64 0):=by rw[vB,aE];kernel_rfl
theorem El:BV call k (n+1) v0 v1 v2 v3 w4 w5 w6 w7 v8 v9 v10=
 bif au (v10.toInt) (v9.toInt)then
 bif aj (0) (v10.toInt)&&au (v10.toInt) ((v8.toList.length:Int))then
 bif ((nth default v8.toList v10.toInt.toNat).cell 0).toStr.data.toList==(ByteArray.mk #[100,101,108,97,121]).data.toList then
 bif au (1) ((Nat.cast ((nth default v8.toList v10.toInt.toNat).cell 10).toList.length:Int))then
 bif au ((nth default ((nth default v8.toList v10.toInt.toNat).cell 10).toList 1).toInt) (0)then
 bif au (2) ((Nat.cast ((nth default v8.toList v10.toInt.toNat).cell 10).toList.length:Int))then
 bif au ((nth default ((nth default v8.toList v10.toInt.toNat).cell 10).toList 2).toInt) (0)then
 vB call k n v0 v1 v2 v3 w4 w5 w6 w7 v10 ((nth default v8.toList v10.toInt.toNat).cell 0) ((nth default v8.toList v10.toInt.toNat).cell 1) ((nth default v8.toList v10.toInt.toNat).cell 2) ((nth default v8.toList v10.toInt.toNat).cell 3) ((nth default v8.toList v10.toInt.toNat).cell 4) ((nth default v8.toList v10.toInt.toNat).cell 5) ((nth default v8.toList v10.toInt.toNat).cell 6) ((nth default v8.toList v10.toInt.toNat).cell 7) ((nth default v8.toList v10.toInt.toNat).cell 8) ((nth default v8.toList v10.toInt.toNat).cell 9) ((nth default v8.toList v10.toInt.toNat).cell 10) ((nth default v8.toList v10.toInt.toNat).cell 11) (PV.bool (aj (v0.toInt) (((nth default v8.toList v10.toInt.toNat).cell 2).toInt))) v8 v9 v10
 else
 vB call k n v0 v1 v2 v3 w4 w5 w6 w7 v10 ((nth default v8.toList v10.toInt.toNat).cell 0) ((nth default v8.toList v10.toInt.toNat).cell 1) ((nth default v8.toList v10.toInt.toNat).cell 2) ((nth default v8.toList v10.toInt.toNat).cell 3) ((nth default v8.toList v10.toInt.toNat).cell 4) ((nth default v8.toList v10.toInt.toNat).cell 5) ((nth default v8.toList v10.toInt.toNat).cell 6) ((nth default v8.toList v10.toInt.toNat).cell 7) ((nth default v8.toList v10.toInt.toNat).cell 8) ((nth default v8.toList v10.toInt.toNat).cell 9) ((nth default v8.toList v10.toInt.toNat).cell 10) ((nth default v8.toList v10.toInt.toNat).cell 11) (PV.bool false) v8 v9 v10
 else
 none
 else
 vB call k n v0 v1 v2 v3 w4 w5 w6 w7 v10 ((nth default v8.toList v10.toInt.toNat).cell 0) ((nth default v8.toList v10.toInt.toNat).cell 1) ((nth default v8.toList v10.toInt.toNat).cell 2) ((nth default v8.toList v10.toInt.toNat).cell 3) ((nth default v8.toList v10.toInt.toNat).cell 4) ((nth default v8.toList v10.toInt.toNat).cell 5) ((nth default v8.toList v10.toInt.toNat).cell 6) ((nth default v8.toList v10.toInt.toNat).cell 7) ((nth default v8.toList v10.toInt.toNat).cell 8) ((nth default v8.toList v10.toInt.toNat).cell 9) ((nth default v8.toList v10.toInt.toNat).cell 10) ((nth default v8.toList v10.toInt.toNat).cell 11) (PV.bool false) v8 v9 v10
 else
 none
 else
 vB call k n v0 v1 v2 v3 w4 w5 w6 w7 v10 ((nth default v8.toList v10.toInt.toNat).cell 0) ((nth default v8.toList v10.toInt.toNat).cell 1) ((nth default v8.toList v10.toInt.toNat).cell 2) ((nth default v8.toList v10.toInt.toNat).cell 3) ((nth default v8.toList v10.toInt.toNat).cell 4) ((nth default v8.toList v10.toInt.toNat).cell 5) ((nth default v8.toList v10.toInt.toNat).cell 6) ((nth default v8.toList v10.toInt.toNat).cell 7) ((nth default v8.toList v10.toInt.toNat).cell 8) ((nth default v8.toList v10.toInt.toNat).cell 9) ((nth default v8.toList v10.toInt.toNat).cell 10) ((nth default v8.toList v10.toInt.toNat).cell 11) (PV.bool false) v8 v9 v10
 else
 none
 else
 some ([.pv (.st 65) (PV.agg [PV.sl w6,PV.sl w7])],[]):=by kernel_rfl
theorem R22:aW Try.prog H0 call k 22 [.pv (.st 25) x0, .pv (.int .i64) x1]=
 bif aj (((x0.cell 1).toList.length:Int)) (((x0.cell 1).toList.length:Int))&&(aj (((x0.cell 1).toList.length:Int)) (140737488355328)&&aj ((Nat.cast 24:Int)* ((x0.cell 1).toList.length:Int)) (140737488355328))then
 bif aj (((x0.cell 1).toList.length:Int)) (((x0.cell 1).toList.length:Int))&&(aj (((x0.cell 1).toList.length:Int)) (140737488355328)&&aj ((Nat.cast 24:Int)* ((x0.cell 1).toList.length:Int)) (140737488355328))then
 BV call k k x1 (x0.cell 0) (x0.cell 1) (x0.cell 2) ([]) ([]) (List.replicate (((x0.cell 1).toList.length:Int)).toNat (PV.sl [])) (List.replicate (((x0.cell 1).toList.length:Int)).toNat (PV.sl [])) (x0.cell 1) (PV.int .i64 ((x0.cell 1).toList.length:Int)) (PV.int .i64 0)
 else
 none
 else
 none:=by rw[aC];kernel_rfl
noncomputable def BW:R:=lq call k 25 n [.b,.b,.a,.b,.aD] (dd::oI v0::oB v1:: .o (.box 25 [.pv (.int .i64) v2, .pv (.sl 55) v3, .pv (.sl 3) v4])::dd::dd::dd:: .o (.arr 57 w5)::dd::dd:: .ptr 3 [] 1::oL 55 v6::oI v7::oI v8::ds 19 [])
theorem En:BW call k (n+1) v0 v1 v2 v3 v4 w5 v6 v7 v8=
 bif au (v8.toInt) (v7.toInt)then
 bif aj (0) (v8.toInt)&&au (v8.toInt) ((v6.toList.length:Int))then
 bif ((nth default v6.toList v8.toInt.toNat).cell 0).toStr.data.toList==(ByteArray.mk #[100,101,108,97,121]).data.toList then
 let c0:=call 42 [.pv (.int .i64) ((nth default v6.toList v8.toInt.toNat).cell 2), .pv (.int .i64) v0, .pv .bool v1]
 bif ab (.int .i64) c0 then
 bif AJ ((w5.length+[PV.agg (eo (PV.agg [PV.int .i64 0,PV.int .i64 0]).cells [(0,bif aO (.int .i64)then bB v8 0 1 else [v8]),(1,bif aO (.int .i64)then bB (aa c0) 0 1 else [aa c0])])].reverse.length)*16) (room)then
 BW call k n v0 v1 v2 v3 v4 (w5++[PV.agg (eo (PV.agg [PV.int .i64 0,PV.int .i64 0]).cells [(0,bif aO (.int .i64)then bB v8 0 1 else [v8]),(1,bif aO (.int .i64)then bB (aa c0) 0 1 else [aa c0])])].reverse) v6 v7 (PV.int .i64 (IntKind.i64.wrap (v8.toInt+1)))
 else
 none
 else
 none
 else
 BW call k n v0 v1 v2 v3 v4 w5 v6 v7 (PV.int .i64 (IntKind.i64.wrap (v8.toInt+1)))
 else
 none
 else
 some ([.arr 57 w5],[]):=by kernel_rfl
theorem R25:aW Try.prog H0 call k 25 [.pv (.st 25) x0, .pv (.int .i64) x1, .pv .bool x2]=
 BW call k k x1 x2 (x0.cell 0) (x0.cell 1) (x0.cell 2) ([]) (x0.cell 1) (PV.int .i64 ((x0.cell 1).toList.length:Int)) (PV.int .i64 0):=by rw[aC];kernel_rfl
noncomputable def sr:R:=jn call k 28 12 [.b,.b,.a,.b,.aD,.lp n,.b,.b,.a,.aD,.b,.b,.b,.b] (dd::oI v0::oB v1:: .o (.box 25 [.pv (.int .i64) v2, .pv (.sl 55) v3, .pv (.sl 3) v4])::dd::dd::dd:: .o (.arr 57 w5)::oI v6::dd::oI v7::dd:: .ptr 3 [] 1::oL 55 v8::oI v9::oI v10::ds 26 [])
noncomputable def Gq:R:=lq call k 28 n [.b,.b,.a,.b,.aD,.lp m1,.b,.b,.a,.aD,.b,.b,.b,.a,.b,.x,.b,.a,.aD] (dd::oI v0::oB v1:: .o (.box 25 [.pv (.int .i64) v2, .pv (.sl 55) v3, .pv (.sl 3) v4])::dd::dd::dd:: .o (.arr 57 w5)::oI v6::dd::oI v7::oI v8:: .ptr 3 [] 1::oL 55 v9::oI v10::oI v11::ds 26 [])
noncomputable def BX:R:=lq call k 28 n [.b,.b,.a,.b,.aD] (dd::oI v0::oB v1:: .o (.box 25 [.pv (.int .i64) v2, .pv (.sl 55) v3, .pv (.sl 3) v4])::dd::dd::dd:: .o (.arr 57 w5)::ds 4 (AV.ptr 3 [] 1::oL 55 v6::oI v7::oI v8::ds 26 []))
theorem Ir:sr call k n v0 v1 v2 v3 v4 w5 v6 v7 v8 v9 v10=
 bif AJ ((w5.length+[PV.agg (eo (PV.agg [PV.int .i64 0,PV.int .i64 0]).cells [(0,bif aO (.int .i64)then bB v6 0 1 else [v6]),(1,bif aO (.int .i64)then bB v7 0 1 else [v7])])].reverse.length)*16) (room)then
 BX call k n v0 v1 v2 v3 v4 (w5++[PV.agg (eo (PV.agg [PV.int .i64 0,PV.int .i64 0]).cells [(0,bif aO (.int .i64)then bB v6 0 1 else [v6]),(1,bif aO (.int .i64)then bB v7 0 1 else [v7])])].reverse) v8 v9 (PV.int .i64 (IntKind.i64.wrap (v10.toInt+1)))
 else
 none:=by rw[sr,aE];kernel_rfl
theorem vC:Gq call k m1 (n+1) v0 v1 v2 v3 v4 w5 v6 v7 v8 v9 v10 v11=
 bif au (v8.toInt) (v7.toInt)then
 Gq call k m1 n v0 v1 v2 v3 v4 w5 v6 v7 (PV.int .i64 (IntKind.i64.wrap (v8.toInt*2))) v9 v10 v11
 else
 sr call k m1 v0 v1 v2 v3 v4 w5 v6 v8 v9 v10 v11:=by kernel_rfl
theorem Eo:BX call k (n+1) v0 v1 v2 v3 v4 w5 v6 v7 v8=
 bif au (v8.toInt) (v7.toInt)then
 bif aj (0) (v8.toInt)&&au (v8.toInt) ((v6.toList.length:Int))then
 bif !((nth default v6.toList v8.toInt.toNat).cell 0).toStr.data.toList==(ByteArray.mk #[100,101,108,97,121]).data.toList then
 BX call k n v0 v1 v2 v3 v4 w5 v6 v7 (PV.int .i64 (IntKind.i64.wrap (v8.toInt+1)))
 else
 bif v1.toBool then
 Gq call k n k v0 v1 v2 v3 v4 w5 v8 (PV.int .i64 (IntKind.i64.wrap (((nth default v6.toList v8.toInt.toNat).cell 2).toInt+v0.toInt))) (PV.int .i64 1) v6 v7 v8
 else
 sr call k n v0 v1 v2 v3 v4 w5 v8 (PV.int .i64 (IntKind.i64.wrap (((nth default v6.toList v8.toInt.toNat).cell 2).toInt+v0.toInt))) v6 v7 v8
 else
 none
 else
 some ([.arr 57 w5],[]):=by kernel_rfl
theorem R28:aW Try.prog H0 call k 28 [.pv (.st 25) x0, .pv (.int .i64) x1, .pv .bool x2]=
 BX call k k x1 x2 (x0.cell 0) (x0.cell 1) (x0.cell 2) ([]) (x0.cell 1) (PV.int .i64 ((x0.cell 1).toList.length:Int)) (PV.int .i64 0):=by rw[aC];kernel_rfl
noncomputable def Gr:R:=lq call k 35 n [.b,.b,.a,.b,.aD] (oL 57 v0::oL 57 v1::ds 10 (oI v2::oI v3::ds 12 []))
theorem Ep:Gr call k (n+1) v0 v1 v2 v3=
 bif au (v3.toInt) (v2.toInt)then
 bif aj (0) (v3.toInt)&&au (v3.toInt) ((v0.toList.length:Int))then
 bif aj (0) (v3.toInt)&&au (v3.toInt) ((v1.toList.length:Int))then
 bif !(ak (((nth default v0.toList v3.toInt.toNat).cell 0).toInt) (((nth default v1.toList v3.toInt.toNat).cell 0).toInt)&&ak (((nth default v0.toList v3.toInt.toNat).cell 1).toInt) (((nth default v1.toList v3.toInt.toNat).cell 1).toInt))then
 some ([.pv .bool (PV.bool false)],[])
 else
 Gr call k n v0 v1 v2 (PV.int .i64 (IntKind.i64.wrap (v3.toInt+1)))
 else
 none
 else
 none
 else
 some ([.pv .bool (PV.bool true)],[]):=by kernel_rfl
theorem R35:aW Try.prog H0 call k 35 [.pv (.sl 57) x0, .pv (.sl 57) x1]=
 bif !ak ((x0.toList.length:Int)) ((x1.toList.length:Int))then
 some ([.pv .bool (PV.bool false)],[])
 else
 Gr call k k x0 x1 (PV.int .i64 (x0.toList.length:Int)) (PV.int .i64 0):=by rw[aC];kernel_rfl
noncomputable def Gs:R:=jn call k 39 7 [.b,.b,.a,.b,.aD,.lp n,.b,.b,.b] (dd::oI v0:: .o (.box 55 [.pv Ty.str v1, .pv Ty.str v2, .pv (.int .i64) v3, .pv (.int .i64) v4, .pv (.sl 128) v5, .pv Ty.str v6, .pv (.int .i64) v7, .pv (.int .i64) v8, .pv Ty.str v9, .pv Ty.str v10, .pv (.sl 3) v11, .pv (.sl 25) v12])::dd::dd::oI v13::oI v14::ds 4 (AV.ptr 2 [] 10::oL 3 v15::oI v16::oI v17::ds 29 []))
noncomputable def Er:R:=jn call k 39 14 [.b,.b,.b,.b,.a] (ds 5 (oI v0::oI v1::ds 37 []))
noncomputable def TE:R:=lq call k 39 n [.b,.b,.b,.a,.b,.aD] (dd::oI v0::dd::dd::dd::oI v1::oI v2::ds 18 (oL 3 v3::oI v4::oI v5::ds 16 []))
noncomputable def ri:R:=jn call k 39 13 [.b,.b,.b,.a,.b,.aD,.lp n,.b,.b,.b] (dd::oI v0::dd::dd::dd::oI v1::oI v2::ds 18 (.o (.arr 3 w3)::oI v4::oI v5::ds 16 []))
noncomputable def uj:R:=lq call k 39 n [.b,.b,.b,.a,.b,.aD] (dd::oI v0::dd::dd::dd::oI v1::oI v2::ds 18 (.o (.arr 3 w3)::oI v4::oI v5::ds 16 []))
noncomputable def Gt:R:=lq call k 39 n [.b,.b,.a,.b,.aD] (dd::oI v0:: .o (.box 55 [.pv Ty.str v1, .pv Ty.str v2, .pv (.int .i64) v3, .pv (.int .i64) v4, .pv (.sl 128) v5, .pv Ty.str v6, .pv (.int .i64) v7, .pv (.int .i64) v8, .pv Ty.str v9, .pv Ty.str v10, .pv (.sl 3) v11, .pv (.sl 25) v12])::dd::dd::oI v13::oI v14::ds 4 (AV.ptr 2 [] 10::oL 3 v15::oI v16::oI v17::ds 29 []))
theorem Lr:Gs call k n v0 v1 v2 v3 v4 v5 v6 v7 v8 v9 v10 v11 v12 v13 v14 v15 v16 v17=
 Gt call k n v0 v1 v2 v3 v4 v5 v6 v7 v8 v9 v10 v11 v12 v13 v14 v15 v16 (PV.int .i64 (IntKind.i64.wrap (v17.toInt+1))):=by rw[Gs,aE];kernel_rfl
theorem Is:Er call k v0 v1=
 bif au (0) (v1.toInt)then
 some ([.pv .bool (PV.bool (au (v1.toInt) (v0.toInt)))],[])
 else
 some ([.pv .bool (PV.bool false)],[]):=by rw[Er,aE];kernel_rfl
theorem BY:ri call k n v0 v1 v2 w3 v4 v5=
 uj call k n v0 v1 v2 w3 v4 (PV.int .i64 (IntKind.i64.wrap (v5.toInt+1))):=by rw[ri,aE];kernel_rfl
theorem zB:uj call k (n+1) v0 v1 v2 w3 v4 v5=
 bif au (v5.toInt) (v4.toInt)then
 bif aj (0) (v5.toInt)&&au (v5.toInt) ((w3.length:Int))then
 bif ak ((nth default w3 v5.toInt.toNat).toInt) (v0.toInt)then
 ri call k n v0 v1 (PV.int .i64 (IntKind.i64.wrap (v2.toInt+1))) w3 v4 v5
 else
 ri call k n v0 v1 v2 w3 v4 v5
 else
 none
 else
 Er call k v1 v2:=by kernel_rfl
theorem Es:Gt call k (n+1) v0 v1 v2 v3 v4 v5 v6 v7 v8 v9 v10 v11 v12 v13 v14 v15 v16 v17=
 bif au (v17.toInt) (v16.toInt)then
 bif aj (0) (v17.toInt)&&au (v17.toInt) ((v15.toList.length:Int))then
 bif ak ((nth default v15.toList v17.toInt.toNat).toInt) (v0.toInt)then
 Gs call k n v0 v1 v2 v3 v4 v5 v6 v7 v8 v9 v10 v11 v12 (PV.int .i64 (IntKind.i64.wrap (v13.toInt+1))) v14 v15 v16 v17
 else
 Gs call k n v0 v1 v2 v3 v4 v5 v6 v7 v8 v9 v10 v11 v12 v13 v14 v15 v16 v17
 else
 none
 else
 let c0:=call 38 [.pv (.st 55) (PV.agg [v1,v2,v3,v4,v5,v6,v7,v8,v9,v10,v11,v12])]
 bif ab (.sl 3) c0 then
 TE call k k v0 v13 v14 (aa c0) (PV.int .i64 ((aa c0).toList.length:Int)) (PV.int .i64 0)
 else
 bif fU 3 c0 then
 uj call k k v0 v13 v14 (cB c0) (PV.int .i64 ((cB c0).length:Int)) (PV.int .i64 0)
 else
 none:=by kernel_rfl
theorem R39:aW Try.prog H0 call k 39 [.pv (.st 55) x0, .pv (.int .i64) x1]=
 Gt call k k x1 (x0.cell 0) (x0.cell 1) (x0.cell 2) (x0.cell 3) (x0.cell 4) (x0.cell 5) (x0.cell 6) (x0.cell 7) (x0.cell 8) (x0.cell 9) (x0.cell 10) (x0.cell 11) (PV.int .i64 0) (PV.int .i64 0) (x0.cell 10) (PV.int .i64 ((x0.cell 10).toList.length:Int)) (PV.int .i64 0):=by rw[aC];kernel_rfl
end Go.V
namespace Go.V
open Go.Proofs
variable (call:aw) (k m1 m2 m3 n:Nat) (x0 x1 x2 x3 x4 x5 x6 x7 x8 x9:PV) (v0:PV) (w0:List PV) (u0:Nat) (v1:PV) (w1:List PV) (u1:Nat) (v2:PV) (w2:List PV) (u2:Nat) (v3:PV) (w3:List PV) (u3:Nat) (v4:PV) (w4:List PV) (u4:Nat) (v5:PV) (w5:List PV) (u5:Nat) (v6:PV) (w6:List PV) (u6:Nat) (v7:PV) (w7:List PV) (u7:Nat) (v8:PV) (w8:List PV) (u8:Nat) (v9:PV) (w9:List PV) (u9:Nat) (v10:PV) (w10:List PV) (u10:Nat) (v11:PV) (w11:List PV) (u11:Nat) (v12:PV) (w12:List PV) (u12:Nat) (v13:PV) (w13:List PV) (u13:Nat) (v14:PV) (w14:List PV) (u14:Nat) (v15:PV) (w15:List PV) (u15:Nat) (v16:PV) (w16:List PV) (u16:Nat) (v17:PV) (w17:List PV) (u17:Nat) (v18:PV) (w18:List PV) (u18:Nat) (v19:PV) (w19:List PV) (u19:Nat) (v20:PV) (w20:List PV) (u20:Nat) (v21:PV) (w21:List PV) (u21:Nat) (v22:PV) (w22:List PV) (u22:Nat) (v23:PV) (w23:List PV) (u23:Nat) (v24:PV) (w24:List PV) (u24:Nat) (v25:PV) (w25:List PV) (u25:Nat) (v26:PV) (w26:List PV) (u26:Nat) (v27:PV) (w27:List PV) (u27:Nat) (v28:PV) (w28:List PV) (u28:Nat) (v29:PV) (w29:List PV) (u29:Nat) (v30:PV) (w30:List PV) (u30:Nat) (v31:PV) (w31:List PV) (u31:Nat) (v32:PV) (w32:List PV) (u32:Nat) (v33:PV) (w33:List PV) (u33:Nat) (v34:PV) (w34:List PV) (u34:Nat) (v35:PV) (w35:List PV) (u35:Nat) (v36:PV) (w36:List PV) (u36:Nat) (v37:PV) (w37:List PV) (u37:Nat) (v38:PV) (w38:List PV) (u38:Nat) (v39:PV) (w39:List PV) (u39:Nat) (v40:PV) (w40:List PV) (u40:Nat) (v41:PV) (w41:List PV) (u41:Nat) (v42:PV) (w42:List PV) (u42:Nat) (v43:PV) (w43:List PV) (u43:Nat) (v44:PV) (w44:List PV) (u44:Nat) (v45:PV) (w45:List PV) (u45:Nat) (v46:PV) (w46:List PV) (u46:Nat) (v47:PV) (w47:List PV) (u47:Nat) (v48:PV) (w48:List PV) (u48:Nat) (v49:PV) (w49:List PV) (u49:Nat) (v50:PV) (w50:List PV) (u50:Nat) (v51:PV) (w51:List PV) (u51:Nat) (v52:PV) (w52:List PV) (u52:Nat) (v53:PV) (w53:List PV) (u53:Nat) (v54:PV) (w54:List PV) (u54:Nat) (v55:PV) (w55:List PV) (u55:Nat) (v56:PV) (w56:List PV) (u56:Nat) (v57:PV) (w57:List PV) (u57:Nat) (v58:PV) (w58:List PV) (u58:Nat) (v59:PV) (w59:List PV) (u59:Nat)
noncomputable def xY:R:=jn call k 51 2 [.b,.a,.b,.x,.a] (dd::oI v0:: .o (.box 25 [.pv (.int .i64) v1, .pv (.sl 55) v2, .pv (.sl 3) v3])::ds 29 (oB v4::ds 69 []))
noncomputable def Gu:R:=lq call k 51 n [.b,.b,.a,.b,.aD,.lp m1,.b,.b,.a,.aD,.b,.b,.b,.aD] (dd::oI v0:: .o (.box 25 [.pv (.int .i64) v1, .pv (.sl 55) v2, .pv (.sl 3) v3])::dd::dd::dd:: .o (.box 55 [.pv Ty.str v4, .pv Ty.str v5, .pv (.int .i64) v6, .pv (.int .i64) v7, .pv (.sl 128) v8, .pv Ty.str v9, .pv (.int .i64) v10, .pv (.int .i64) v11, .pv Ty.str v12, .pv Ty.str v13, .pv (.sl 3) v14, .pv (.sl 25) v15])::ds 26 (AV.ptr 2 [] 1::oL 55 v16::oI v17::oI v18::ds 7 (AV.ptr 6 [] 11::oL 25 v19::oI v20::oI v21::ds 54 [])))
noncomputable def vD:R:=jn call k 51 25 [.b,.b,.b,.b,.a,.b,.aD,.lp n,.b,.b,.a,.aD,.b,.b,.x,.a] (dd::dd:: .o (.box 25 [.pv (.int .i64) v0, .pv (.sl 55) v1, .pv (.sl 3) v2])::ds 67 (AV.ptr 2 [] 2::oL 3 v3::oI v4::oI v5::ds 20 (oB v6::ds 7 [])))
noncomputable def zC:R:=lq call k 51 n [.b,.b,.b,.b,.a,.b,.aD] (dd::dd:: .o (.box 25 [.pv (.int .i64) v0, .pv (.sl 55) v1, .pv (.sl 3) v2])::ds 67 (AV.ptr 2 [] 2::oL 3 v3::oI v4::oI v5::ds 28 []))
noncomputable def zD:R:=lq call k 51 n [.b,.b,.b,.a,.b,.aD] (dd::dd:: .o (.box 25 [.pv (.int .i64) v0, .pv (.sl 55) v1, .pv (.sl 3) v2])::ds 55 (AV.ptr 2 [] 1::oL 55 v3::oI v4::oI v5::ds 40 []))
noncomputable def BZ:R:=lq call k 51 n [.b,.b,.a,.b,.aD] (dd::oI v0:: .o (.box 25 [.pv (.int .i64) v1, .pv (.sl 55) v2, .pv (.sl 3) v3])::ds 30 (AV.ptr 2 [] 1::oL 55 v4::oI v5::oI v6::ds 65 []))
theorem Ls:xY call k v0 v1 v2 v3 v4=
 some ([.pv .bool (PV.bool false)],[]):=by rw[xY,aE];kernel_rfl
theorem Et:Gu call k m1 (n+1) v0 v1 v2 v3 v4 v5 v6 v7 v8 v9 v10 v11 v12 v13 v14 v15 v16 v17 v18 v19 v20 v21=
 bif au (v21.toInt) (v20.toInt)then
 bif aj (0) (v21.toInt)&&au (v21.toInt) ((v19.toList.length:Int))then
 let c1:=call 51 [.pv (.st 25) (PV.agg [(nth default v19.toList v21.toInt.toNat).cell 0,(nth default v19.toList v21.toInt.toNat).cell 1,(nth default v19.toList v21.toInt.toNat).cell 2]), .pv (.int .i64) (PV.int .i64 (IntKind.i64.wrap (v0.toInt+1)))]
 bif ab .bool c1 then
 bif !(aa c1).toBool then
 some ([.pv .bool (PV.bool false)],[])
 else
 Gu call k m1 n v0 v1 v2 v3 v4 v5 v6 v7 v8 v9 v10 v11 v12 v13 v14 v15 v16 v17 v18 v19 v20 (PV.int .i64 (IntKind.i64.wrap (v21.toInt+1)))
 else
 none
 else
 none
 else
 BZ call k m1 v0 v1 v2 v3 v16 v17 (PV.int .i64 (IntKind.i64.wrap (v18.toInt+1))):=by kernel_rfl
theorem It:vD call k n v0 v1 v2 v3 v4 v5 v6=
 some ([.pv .bool (PV.bool false)],[]):=by rw[vD,aE];kernel_rfl
theorem B0:zC call k (n+1) v0 v1 v2 v3 v4 v5=
 bif au (v5.toInt) (v4.toInt)then
 bif aj (0) (v5.toInt)&&au (v5.toInt) ((v3.toList.length:Int))then
 bif au ((nth default v3.toList v5.toInt.toNat).toInt) (0)then
 vD call k n v0 v1 v2 v3 v4 v5 (PV.bool true)
 else
 bif aj ((v1.toList.length:Int)) ((nth default v3.toList v5.toInt.toNat).toInt)then
 vD call k n v0 v1 v2 v3 v4 v5 (PV.bool true)
 else
 bif aj (0) ((nth default v3.toList v5.toInt.toNat).toInt)&&au ((nth default v3.toList v5.toInt.toNat).toInt) ((v1.toList.length:Int))then
 bif ((nth default v1.toList (nth default v3.toList v5.toInt.toNat).toInt.toNat).cell 0).toStr.data.toList==(ByteArray.mk #[117,112]).data.toList then
 vD call k n v0 v1 v2 v3 v4 v5 (PV.bool true)
 else
 zC call k n v0 v1 v2 v3 v4 (PV.int .i64 (IntKind.i64.wrap (v5.toInt+1)))
 else
 none
 else
 none
 else
 let c3:=call 70 [.pv (.st 25) (PV.agg [v0,v1,v2])]
 bif cc (List.map (ai Try.prog) #[23,4].toList) c3 then
 some ([.pv .bool (bk 1 c3)],[])
 else
 none:=by kernel_rfl
theorem B1:zD call k (n+1) v0 v1 v2 v3 v4 v5=
 bif au (v5.toInt) (v4.toInt)then
 bif aj (0) (v5.toInt)&&au (v5.toInt) ((v3.toList.length:Int))then
 let c2:=call 69 [.pv (.st 25) (PV.agg [v0,v1,v2]), .pv (.st 55) (PV.agg [(nth default v3.toList v5.toInt.toNat).cell 0,(nth default v3.toList v5.toInt.toNat).cell 1,(nth default v3.toList v5.toInt.toNat).cell 2,(nth default v3.toList v5.toInt.toNat).cell 3,(nth default v3.toList v5.toInt.toNat).cell 4,(nth default v3.toList v5.toInt.toNat).cell 5,(nth default v3.toList v5.toInt.toNat).cell 6,(nth default v3.toList v5.toInt.toNat).cell 7,(nth default v3.toList v5.toInt.toNat).cell 8,(nth default v3.toList v5.toInt.toNat).cell 9,(nth default v3.toList v5.toInt.toNat).cell 10,(nth default v3.toList v5.toInt.toNat).cell 11])]
 bif ab .bool c2 then
 bif !(aa c2).toBool then
 some ([.pv .bool (PV.bool false)],[])
 else
 zD call k n v0 v1 v2 v3 v4 (PV.int .i64 (IntKind.i64.wrap (v5.toInt+1)))
 else
 none
 else
 none
 else
 zC call k k v0 v1 v2 v2 (PV.int .i64 (v2.toList.length:Int)) (PV.int .i64 0):=by kernel_rfl
theorem Eu:BZ call k (n+1) v0 v1 v2 v3 v4 v5 v6=
 bif au (v6.toInt) (v5.toInt)then
 bif aj (0) (v6.toInt)&&au (v6.toInt) ((v4.toList.length:Int))then
 let c0:=call 68 [.pv (.st 25) (PV.agg [v1,v2,v3]), .pv (.st 55) (PV.agg [(nth default v4.toList v6.toInt.toNat).cell 0,(nth default v4.toList v6.toInt.toNat).cell 1,(nth default v4.toList v6.toInt.toNat).cell 2,(nth default v4.toList v6.toInt.toNat).cell 3,(nth default v4.toList v6.toInt.toNat).cell 4,(nth default v4.toList v6.toInt.toNat).cell 5,(nth default v4.toList v6.toInt.toNat).cell 6,(nth default v4.toList v6.toInt.toNat).cell 7,(nth default v4.toList v6.toInt.toNat).cell 8,(nth default v4.toList v6.toInt.toNat).cell 9,(nth default v4.toList v6.toInt.toNat).cell 10,(nth default v4.toList v6.toInt.toNat).cell 11])]
 bif ab .bool c0 then
 bif !(aa c0).toBool then
 some ([.pv .bool (PV.bool false)],[])
 else
 Gu call k n k v0 v1 v2 v3 ((nth default v4.toList v6.toInt.toNat).cell 0) ((nth default v4.toList v6.toInt.toNat).cell 1) ((nth default v4.toList v6.toInt.toNat).cell 2) ((nth default v4.toList v6.toInt.toNat).cell 3) ((nth default v4.toList v6.toInt.toNat).cell 4) ((nth default v4.toList v6.toInt.toNat).cell 5) ((nth default v4.toList v6.toInt.toNat).cell 6) ((nth default v4.toList v6.toInt.toNat).cell 7) ((nth default v4.toList v6.toInt.toNat).cell 8) ((nth default v4.toList v6.toInt.toNat).cell 9) ((nth default v4.toList v6.toInt.toNat).cell 10) ((nth default v4.toList v6.toInt.toNat).cell 11) v4 v5 v6 ((nth default v4.toList v6.toInt.toNat).cell 11) (PV.int .i64 (Nat.cast ((nth default v4.toList v6.toInt.toNat).cell 11).toList.length:Int)) (PV.int .i64 0)
 else
 none
 else
 none
 else
 zD call k k v1 v2 v3 v2 (PV.int .i64 (v2.toList.length:Int)) (PV.int .i64 0):=by kernel_rfl
theorem R51:aW Try.prog H0 call k 51 [.pv (.st 25) x0, .pv (.int .i64) x1]=
 bif au ((x0.cell 0).toInt) (0)then
 xY call k x1 (x0.cell 0) (x0.cell 1) (x0.cell 2) (PV.bool true)
 else
 bif au (64) ((x0.cell 0).toInt)then
 xY call k x1 (x0.cell 0) (x0.cell 1) (x0.cell 2) (PV.bool true)
 else
 bif au (64) (((x0.cell 2).toList.length:Int))then
 xY call k x1 (x0.cell 0) (x0.cell 1) (x0.cell 2) (PV.bool true)
 else
 bif au (60) (x1.toInt)then
 xY call k x1 (x0.cell 0) (x0.cell 1) (x0.cell 2) (PV.bool true)
 else
 BZ call k k x1 (x0.cell 0) (x0.cell 1) (x0.cell 2) (x0.cell 1) (PV.int .i64 ((x0.cell 1).toList.length:Int)) (PV.int .i64 0):=by rw[aC];kernel_rfl
noncomputable def Gv:R:=jn call k 68 9 [.b,.b,.b,.a,.b,.aD,.b,.y,.b,.x,.a] (dd::dd::dd:: .o (.box 55 [.pv Ty.str v0, .pv Ty.str v1, .pv (.int .i64) v2, .pv (.int .i64) v3, .pv (.sl 128) v4, .pv Ty.str v5, .pv (.int .i64) v6, .pv (.int .i64) v7, .pv Ty.str v8, .pv Ty.str v9, .pv (.sl 3) v10, .pv (.sl 25) v11])::dd::oB v12::ds 33 (oS v13::ds 15 (oB v14::ds 55 [])))
noncomputable def zE:R:=jn call k 68 17 [.b,.b,.b,.b,.a] (dd::dd::dd:: .o (.box 55 [.pv Ty.str v0, .pv Ty.str v1, .pv (.int .i64) v2, .pv (.int .i64) v3, .pv (.sl 128) v4, .pv Ty.str v5, .pv (.int .i64) v6, .pv (.int .i64) v7, .pv Ty.str v8, .pv Ty.str v9, .pv (.sl 3) v10, .pv (.sl 25) v11])::ds 107 [])
noncomputable def xZ:R:=jn call k 68 4 [.b,.b,.b,.a,.a] (dd::dd:: .o (.box 25 [.pv (.int .i64) v0, .pv (.sl 55) v1, .pv (.sl 3) v2]):: .o (.box 55 [.pv Ty.str v3, .pv Ty.str v4, .pv (.int .i64) v5, .pv (.int .i64) v6, .pv (.sl 128) v7, .pv Ty.str v8, .pv (.int .i64) v9, .pv (.int .i64) v10, .pv Ty.str v11, .pv Ty.str v12, .pv (.sl 3) v13, .pv (.sl 25) v14])::dd::oB v15::ds 105 [])
noncomputable def Gw:R:=jn call k 68 3 [.b,.b,.a] (dd::dd:: .o (.box 25 [.pv (.int .i64) v0, .pv (.sl 55) v1, .pv (.sl 3) v2]):: .o (.box 55 [.pv Ty.str v3, .pv Ty.str v4, .pv (.int .i64) v5, .pv (.int .i64) v6, .pv (.sl 128) v7, .pv Ty.str v8, .pv (.int .i64) v9, .pv (.int .i64) v10, .pv Ty.str v11, .pv Ty.str v12, .pv (.sl 3) v13, .pv (.sl 25) v14])::ds 107 [])
theorem Lt:Gv call k v0 v1 v2 v3 v4 v5 v6 v7 v8 v9 v10 v11 v12 v13 v14=
 bif v12.toBool then
 some ([.pv .bool (PV.bool (ak (v2.toInt) (0)))],[])
 else
 some ([.pv .bool (PV.bool false)],[]):=by rw[Gv,aE];kernel_rfl
theorem Iu:zE call k v0 v1 v2 v3 v4 v5 v6 v7 v8 v9 v10 v11=
 let c0:=call 79 [.pv (.st 142) (PV.agg [fg (ek.pv Ty.str v0),fg (ek.pv Ty.str v1),fg (ek.pv (.int .i64) v2),fg (ek.pv (.int .i64) v3),fg (ek.pv (.sl 128) v4),fg (ek.pv Ty.str v5),fg (ek.pv (.int .i64) v6),fg (ek.pv (.int .i64) v7),fg (ek.pv Ty.str v8),fg (ek.pv Ty.str v9),PV.sl []])]
 bif cc (List.map (ai Try.prog) #[3,3,29].toList) c0 then
 some ([.pv .bool (PV.bool (ak ((bk 2 c0).toInt) (0)))],[])
 else
 none:=by rw[zE,aE];kernel_rfl
theorem Lu:xZ call k v0 v1 v2 v3 v4 v5 v6 v7 v8 v9 v10 v11 v12 v13 v14 v15=
 bif v3.toStr.data.toList==(ByteArray.mk #[105,110]).data.toList then
 bif v15.toBool then
 bif aj (0) (v5.toInt)then
 some ([.pv .bool (PV.bool (au (v5.toInt) (v0.toInt)))],[])
 else
 some ([.pv .bool (PV.bool false)],[])
 else
 some ([.pv .bool (PV.bool false)],[])
 else
 bif v3.toStr.data.toList==(ByteArray.mk #[111,110]).data.toList then
 Gv call k v3 v4 v5 v6 v7 v8 v9 v10 v11 v12 v13 v14 v15 v3 (PV.bool true)
 else
 bif v3.toStr.data.toList==(ByteArray.mk #[104,111,108,100]).data.toList then
 Gv call k v3 v4 v5 v6 v7 v8 v9 v10 v11 v12 v13 v14 v15 v3 (PV.bool true)
 else
 bif v3.toStr.data.toList==(ByteArray.mk #[117,112]).data.toList then
 bif v15.toBool then
 bif ak ((v14.toList.length:Int)) (1)then
 bif aj (2) (v5.toInt)then
 some ([.pv .bool (PV.bool (aj (v5.toInt) (8)))],[])
 else
 some ([.pv .bool (PV.bool false)],[])
 else
 some ([.pv .bool (PV.bool false)],[])
 else
 some ([.pv .bool (PV.bool false)],[])
 else
 bif v3.toStr.data.toList==(ByteArray.mk #[112,97,114,116]).data.toList then
 some ([.pv .bool v15],[])
 else
 bif v3.toStr.data.toList==(ByteArray.mk #[100,101,108,97,121]).data.toList then
 bif au (v5.toInt) (1)then
 some ([.pv .bool (PV.bool false)],[])
 else
 zE call k v3 v4 v5 v6 v7 v8 v9 v10 v11 v12 v13 v14
 else
 zE call k v3 v4 v5 v6 v7 v8 v9 v10 v11 v12 v13 v14:=by rw[xZ,aE];kernel_rfl
theorem Lv:Gw call k v0 v1 v2 v3 v4 v5 v6 v7 v8 v9 v10 v11 v12 v13 v14=
 bif ak (v6.toInt) (0)then
 bif ak ((v7.toList.length:Int)) (0)then
 bif v8.toStr.data.toList==(ByteArray.mk #[]).data.toList&&(ak (v9.toInt) (0)&&(ak (v10.toInt) (0)&&(v11.toStr.data.toList==(ByteArray.mk #[]).data.toList&&v12.toStr.data.toList==(ByteArray.mk #[]).data.toList)))then
 xZ call k v0 v1 v2 v3 v4 v5 v6 v7 v8 v9 v10 v11 v12 v13 v14 (PV.bool (v4.toStr.data.toList==(ByteArray.mk #[]).data.toList))
 else
 xZ call k v0 v1 v2 v3 v4 v5 v6 v7 v8 v9 v10 v11 v12 v13 v14 (PV.bool false)
 else
 xZ call k v0 v1 v2 v3 v4 v5 v6 v7 v8 v9 v10 v11 v12 v13 v14 (PV.bool false)
 else
 xZ call k v0 v1 v2 v3 v4 v5 v6 v7 v8 v9 v10 v11 v12 v13 v14 (PV.bool false):=by rw[Gw,aE];kernel_rfl
theorem R68:aW Try.prog H0 call k 68 [.pv (.st 25) x0, .pv (.st 55) x1]=
 bif !(x1.cell 0).toStr.data.toList==(ByteArray.mk #[117,112]).data.toList then
 bif au (0) (((x1.cell 11).toList.length:Int))then
 some ([.pv .bool (PV.bool false)],[])
 else
 Gw call k (x0.cell 0) (x0.cell 1) (x0.cell 2) (x1.cell 0) (x1.cell 1) (x1.cell 2) (x1.cell 3) (x1.cell 4) (x1.cell 5) (x1.cell 6) (x1.cell 7) (x1.cell 8) (x1.cell 9) (x1.cell 10) (x1.cell 11)
 else
 Gw call k (x0.cell 0) (x0.cell 1) (x0.cell 2) (x1.cell 0) (x1.cell 1) (x1.cell 2) (x1.cell 3) (x1.cell 4) (x1.cell 5) (x1.cell 6) (x1.cell 7) (x1.cell 8) (x1.cell 9) (x1.cell 10) (x1.cell 11):=by rw[aC];kernel_rfl
noncomputable def B2:R:=jn call k 69 8 [.b,.b,.b,.a,.b,.aD,.lp n,.b,.b,.a,.aD,.b,.a,.b,.x,.a] (dd::dd:: .o (.box 25 [.pv (.int .i64) v0, .pv (.sl 55) v1, .pv (.sl 3) v2]):: .o (.box 55 [.pv Ty.str v3, .pv Ty.str v4, .pv (.int .i64) v5, .pv (.int .i64) v6, .pv (.sl 128) v7, .pv Ty.str v8, .pv (.int .i64) v9, .pv (.int .i64) v10, .pv Ty.str v11, .pv Ty.str v12, .pv (.sl 3) v13, .pv (.sl 25) v14])::dd::oI v15::oI v16::dd::oI v17::ds 11 (AV.ptr 3 [] 10::oL 3 v18::oI v19::oI v20::ds 23 (oB v21::ds 46 [])))
noncomputable def vE:R:=jn call k 69 11 [.b,.b,.b,.a,.b,.aD,.lp n,.b,.b,.b] (dd::dd:: .o (.box 25 [.pv (.int .i64) v0, .pv (.sl 55) v1, .pv (.sl 3) v2]):: .o (.box 55 [.pv Ty.str v3, .pv Ty.str v4, .pv (.int .i64) v5, .pv (.int .i64) v6, .pv (.sl 128) v7, .pv Ty.str v8, .pv (.int .i64) v9, .pv (.int .i64) v10, .pv Ty.str v11, .pv Ty.str v12, .pv (.sl 3) v13, .pv (.sl 25) v14])::dd::oI v15::oI v16::ds 13 (AV.ptr 3 [] 10::oL 3 v17::oI v18::oI v19::ds 70 []))
noncomputable def Gx:R:=jn call k 69 9 [.b,.b,.b,.a,.b,.aD,.lp n,.b,.b,.a,.aD,.b,.b,.a] (dd::dd:: .o (.box 25 [.pv (.int .i64) v0, .pv (.sl 55) v1, .pv (.sl 3) v2]):: .o (.box 55 [.pv Ty.str v3, .pv Ty.str v4, .pv (.int .i64) v5, .pv (.int .i64) v6, .pv (.sl 128) v7, .pv Ty.str v8, .pv (.int .i64) v9, .pv (.int .i64) v10, .pv Ty.str v11, .pv Ty.str v12, .pv (.sl 3) v13, .pv (.sl 25) v14])::dd::oI v15::oI v16::dd::oI v17::ds 11 (AV.ptr 3 [] 10::oL 3 v18::oI v19::oI v20::ds 70 []))
noncomputable def B3:R:=lq call k 69 n [.b,.b,.b,.a,.b,.aD] (dd::dd:: .o (.box 25 [.pv (.int .i64) v0, .pv (.sl 55) v1, .pv (.sl 3) v2]):: .o (.box 55 [.pv Ty.str v3, .pv Ty.str v4, .pv (.int .i64) v5, .pv (.int .i64) v6, .pv (.sl 128) v7, .pv Ty.str v8, .pv (.int .i64) v9, .pv (.int .i64) v10, .pv Ty.str v11, .pv Ty.str v12, .pv (.sl 3) v13, .pv (.sl 25) v14])::dd::oI v15::oI v16::ds 13 (AV.ptr 3 [] 10::oL 3 v17::oI v18::oI v19::ds 70 []))
theorem Lw:B2 call k n v0 v1 v2 v3 v4 v5 v6 v7 v8 v9 v10 v11 v12 v13 v14 v15 v16 v17 v18 v19 v20 v21=
 some ([.pv .bool (PV.bool false)],[]):=by rw[B2,aE];kernel_rfl
theorem Iv:vE call k n v0 v1 v2 v3 v4 v5 v6 v7 v8 v9 v10 v11 v12 v13 v14 v15 v16 v17 v18 v19=
 B3 call k n v0 v1 v2 v3 v4 v5 v6 v7 v8 v9 v10 v11 v12 v13 v14 v15 v16 v17 v18 (PV.int .i64 (IntKind.i64.wrap (v19.toInt+1))):=by rw[vE,aE];kernel_rfl
theorem Lx:Gx call k n v0 v1 v2 v3 v4 v5 v6 v7 v8 v9 v10 v11 v12 v13 v14 v15 v16 v17 v18 v19 v20=
 bif aj (0) (v17.toInt)then
 bif aj (0) (v17.toInt)&&au (v17.toInt) ((v1.toList.length:Int))then
 bif aj (0) (v17.toInt)then
 bif !(((nth default v1.toList v17.toInt.toNat).cell 0).toStr.data.toList==(ByteArray.mk #[117,112]).data.toList)==(v3.toStr.data.toList==(ByteArray.mk #[112,97,114,116]).data.toList)then
 some ([.pv .bool (PV.bool false)],[])
 else
 vE call k n v0 v1 v2 v3 v4 v5 v6 v7 v8 v9 v10 v11 v12 v13 v14 v15 v16 v18 v19 v20
 else
 vE call k n v0 v1 v2 v3 v4 v5 v6 v7 v8 v9 v10 v11 v12 v13 v14 v15 v16 v18 v19 v20
 else
 none
 else
 bif aj (0) (v17.toInt)then
 none
 else
 vE call k n v0 v1 v2 v3 v4 v5 v6 v7 v8 v9 v10 v11 v12 v13 v14 v15 v16 v18 v19 v20:=by rw[Gx,aE];kernel_rfl
theorem Ev:B3 call k (n+1) v0 v1 v2 v3 v4 v5 v6 v7 v8 v9 v10 v11 v12 v13 v14 v15 v16 v17 v18 v19=
 bif au (v19.toInt) (v18.toInt)then
 bif aj (0) (v19.toInt)&&au (v19.toInt) ((v17.toList.length:Int))then
 bif au ((nth default v17.toList v19.toInt.toNat).toInt) (-1)then
 B2 call k n v0 v1 v2 v3 v4 v5 v6 v7 v8 v9 v10 v11 v12 v13 v14 v15 v16 (nth default v17.toList v19.toInt.toNat) v17 v18 v19 (PV.bool true)
 else
 bif aj ((v1.toList.length:Int)) ((nth default v17.toList v19.toInt.toNat).toInt)then
 B2 call k n v0 v1 v2 v3 v4 v5 v6 v7 v8 v9 v10 v11 v12 v13 v14 v15 v16 (nth default v17.toList v19.toInt.toNat) v17 v18 v19 (PV.bool true)
 else
 bif au ((nth default v17.toList v19.toInt.toNat).toInt) (0)then
 bif au (v19.toInt) (IntKind.i64.wrap (v15.toInt-v16.toInt))then
 B2 call k n v0 v1 v2 v3 v4 v5 v6 v7 v8 v9 v10 v11 v12 v13 v14 v15 v16 (nth default v17.toList v19.toInt.toNat) v17 v18 v19 (PV.bool true)
 else
 Gx call k n v0 v1 v2 v3 v4 v5 v6 v7 v8 v9 v10 v11 v12 v13 v14 v15 v16 (nth default v17.toList v19.toInt.toNat) v17 v18 v19
 else
 Gx call k n v0 v1 v2 v3 v4 v5 v6 v7 v8 v9 v10 v11 v12 v13 v14 v15 v16 (nth default v17.toList v19.toInt.toNat) v17 v18 v19
 else
 none
 else
 bif v3.toStr.data.toList==(ByteArray.mk #[112,97,114,116]).data.toList then
 bif au (0) ((v13.toList.length:Int))then
 bif aj (0) ((nth default v13.toList 0).toInt)&&au ((nth default v13.toList 0).toInt) ((v1.toList.length:Int))then
 bif ak ((Nat.cast ((nth default v1.toList (nth default v13.toList 0).toInt.toNat).cell 11).toList.length:Int)) (1)then
 bif ak ((Nat.cast ((nth default v1.toList (nth default v13.toList 0).toInt.toNat).cell 11).toList.length:Int)) (1)then
 bif aj (0) (v5.toInt)then
 bif au (0) ((Nat.cast ((nth default v1.toList (nth default v13.toList 0).toInt.toNat).cell 11).toList.length:Int))then
 bif aj (0) (v5.toInt)then
 some ([.pv .bool (PV.bool (au (v5.toInt) ((Nat.cast ((nth default ((nth default v1.toList (nth default v13.toList 0).toInt.toNat).cell 11).toList 0).cell 2).toList.length:Int))))],[])
 else
 some ([.pv .bool (PV.bool false)],[])
 else
 none
 else
 bif aj (0) (v5.toInt)then
 none
 else
 some ([.pv .bool (PV.bool false)],[])
 else
 some ([.pv .bool (PV.bool false)],[])
 else
 bif ak ((Nat.cast ((nth default v1.toList (nth default v13.toList 0).toInt.toNat).cell 11).toList.length:Int)) (1)then
 none
 else
 some ([.pv .bool (PV.bool false)],[])
 else
 none
 else
 none
 else
 some ([.pv .bool (PV.bool true)],[]):=by kernel_rfl
theorem R69:aW Try.prog H0 call k 69 [.pv (.st 25) x0, .pv (.st 55) x1]=
 let c0:=call 80 [.pv (.st 55) (PV.agg [x1.cell 0,x1.cell 1,x1.cell 2,x1.cell 3,x1.cell 4,x1.cell 5,x1.cell 6,x1.cell 7,x1.cell 8,x1.cell 9,x1.cell 10,x1.cell 11])]
 bif cc (List.map (ai Try.prog) #[3,3].toList) c0 then
 bif !ak (((x1.cell 10).toList.length:Int)) ((bk 0 c0).toInt)then
 some ([.pv .bool (PV.bool false)],[])
 else
 B3 call k k (x0.cell 0) (x0.cell 1) (x0.cell 2) (x1.cell 0) (x1.cell 1) (x1.cell 2) (x1.cell 3) (x1.cell 4) (x1.cell 5) (x1.cell 6) (x1.cell 7) (x1.cell 8) (x1.cell 9) (x1.cell 10) (x1.cell 11) (bk 0 c0) (bk 1 c0) (x1.cell 10) (PV.int .i64 ((x1.cell 10).toList.length:Int)) (PV.int .i64 0)
 else
 none:=by rw[aC];kernel_rfl
noncomputable def Pq:R:=jn call k 79 4 [.b,.b,.a,.b,.x,.a] (dd:: .o (.box 142 [.pv Ty.str v0, .pv Ty.str v1, .pv (.int .i64) v2, .pv (.int .i64) v3, .pv (.sl 128) v4, .pv Ty.str v5, .pv (.int .i64) v6, .pv (.int .i64) v7, .pv Ty.str v8, .pv Ty.str v9, .pv (.sl 142) v10])::ds 14 (oB v11::ds 18 []))
theorem R79:aW Try.prog H0 call k 79 [.pv (.st 142) x0]=
 let c0:=call 88 [.pv (.st 142) (PV.agg [x0.cell 0,x0.cell 1,x0.cell 2,x0.cell 3,x0.cell 4,x0.cell 5,x0.cell 6,x0.cell 7,x0.cell 8,x0.cell 9,x0.cell 10])]
 bif ab .bool c0 then
 bif !(aa c0).toBool then
 some ([.pv (.int .i64) (PV.int .i64 0), .pv (.int .i64) (PV.int .i64 0), .pv (.int .i64) (PV.int .i64 2)],[])
 else
 let c1:=call 89 [.pv (.st 142) (PV.agg [x0.cell 0,x0.cell 1,x0.cell 2,x0.cell 3,x0.cell 4,x0.cell 5,x0.cell 6,x0.cell 7,x0.cell 8,x0.cell 9,x0.cell 10])]
 bif ab (.int .i64) c1 then
 bif au (600) ((aa c1).toInt)then
 Pq call k (x0.cell 0) (x0.cell 1) (x0.cell 2) (x0.cell 3) (x0.cell 4) (x0.cell 5) (x0.cell 6) (x0.cell 7) (x0.cell 8) (x0.cell 9) (x0.cell 10) (PV.bool true)
 else
 let c2:=call 90 [.pv (.st 142) (PV.agg [x0.cell 0,x0.cell 1,x0.cell 2,x0.cell 3,x0.cell 4,x0.cell 5,x0.cell 6,x0.cell 7,x0.cell 8,x0.cell 9,x0.cell 10])]
 bif ab (.int .i64) c2 then
 bif au (60) ((aa c2).toInt)then
 Pq call k (x0.cell 0) (x0.cell 1) (x0.cell 2) (x0.cell 3) (x0.cell 4) (x0.cell 5) (x0.cell 6) (x0.cell 7) (x0.cell 8) (x0.cell 9) (x0.cell 10) (PV.bool true)
 else
 let c3:=call 91 [.pv (.st 142) (PV.agg [x0.cell 0,x0.cell 1,x0.cell 2,x0.cell 3,x0.cell 4,x0.cell 5,x0.cell 6,x0.cell 7,x0.cell 8,x0.cell 9,x0.cell 10])]
 bif cc (List.map (ai Try.prog) #[3,3,29].toList) c3 then
 bif !ak ((bk 2 c3).toInt) (0)then
 some ([.pv (.int .i64) (PV.int .i64 0), .pv (.int .i64) (PV.int .i64 0), .pv (.int .i64) (bk 2 c3)],[])
 else
 let c4:=call 92 [.box 156 [.arr 164 [], .arr 9 [], .pv .bool (PV.bool false)], .pv (.st 142) (PV.agg [x0.cell 0,x0.cell 1,x0.cell 2,x0.cell 3,x0.cell 4,x0.cell 5,x0.cell 6,x0.cell 7,x0.cell 8,x0.cell 9,x0.cell 10])]
 bif eG (di [.box 156 [.arr 164 [], .arr 9 [], .pv .bool (PV.bool false)], .pv (.st 142) (PV.agg [x0.cell 0,x0.cell 1,x0.cell 2,x0.cell 3,x0.cell 4,x0.cell 5,x0.cell 6,x0.cell 7,x0.cell 8,x0.cell 9,x0.cell 10])]) c4&&true then
 bif cc (List.map (ai Try.prog) #[].toList) c4 then
 let c5:=call 93 [.box 156 [.arr 164 (cZ (ch (bD 0 c4) 0)), .arr 9 (cZ (ch (bD 0 c4) 1)), .pv .bool (ux (ch (bD 0 c4) 2))]]
 bif eG (di [.box 156 [.arr 164 (cZ (ch (bD 0 c4) 0)), .arr 9 (cZ (ch (bD 0 c4) 1)), .pv .bool (ux (ch (bD 0 c4) 2))]]) c5&&true then
 bif ab .bool c5 then
 bif (aa c5).toBool then
 some ([.pv (.int .i64) (PV.int .i64 0), .pv (.int .i64) (PV.int .i64 0), .pv (.int .i64) (PV.int .i64 8)],[])
 else
 some ([.pv (.int .i64) (bk 0 c3), .pv (.int .i64) (bk 1 c3), .pv (.int .i64) (PV.int .i64 0)],[])
 else
 none
 else
 none
 else
 none
 else
 none
 else
 none
 else
 none
 else
 none
 else
 none:=by rw[aC];kernel_rfl
noncomputable def B4:R:=jn call k 80 5 [.b,.a,.b,.aD,.b,.x,.a] (dd:: .o (.box 55 [.pv Ty.str v0, .pv Ty.str v1, .pv (.int .i64) v2, .pv (.int .i64) v3, .pv (.sl 128) v4, .pv Ty.str v5, .pv (.int .i64) v6, .pv (.int .i64) v7, .pv Ty.str v8, .pv Ty.str v9, .pv (.sl 3) v10, .pv (.sl 25) v11])::ds 6 (oS v12::oB v13::ds 53 []))
noncomputable def Gy:R:=jn call k 80 8 [.b,.a,.b,.aD,.b,.y,.b,.x,.a] (dd:: .o (.box 55 [.pv Ty.str v0, .pv Ty.str v1, .pv (.int .i64) v2, .pv (.int .i64) v3, .pv (.sl 128) v4, .pv Ty.str v5, .pv (.int .i64) v6, .pv (.int .i64) v7, .pv Ty.str v8, .pv Ty.str v9, .pv (.sl 3) v10, .pv (.sl 25) v11])::ds 6 (oS v12::ds 4 (oB v13::ds 49 [])))
noncomputable def zF:R:=jn call k 80 11 [.b,.a,.b,.aD,.b,.y,.b,.y,.b,.x,.a] (dd:: .o (.box 55 [.pv Ty.str v0, .pv Ty.str v1, .pv (.int .i64) v2, .pv (.int .i64) v3, .pv (.sl 128) v4, .pv Ty.str v5, .pv (.int .i64) v6, .pv (.int .i64) v7, .pv Ty.str v8, .pv Ty.str v9, .pv (.sl 3) v10, .pv (.sl 25) v11])::ds 6 (oS v12::ds 7 (oB v13::ds 46 [])))
noncomputable def zG:R:=jn call k 80 26 [.b,.a,.b,.aD,.b,.y,.b,.y,.b,.y,.b,.y,.b,.y,.b,.y,.b,.y,.b,.y,.b,.x,.a] (dd:: .o (.box 55 [.pv Ty.str v0, .pv Ty.str v1, .pv (.int .i64) v2, .pv (.int .i64) v3, .pv (.sl 128) v4, .pv Ty.str v5, .pv (.int .i64) v6, .pv (.int .i64) v7, .pv Ty.str v8, .pv Ty.str v9, .pv (.sl 3) v10, .pv (.sl 25) v11])::ds 37 (oB v12::ds 23 []))
theorem Ly:B4 call k v0 v1 v2 v3 v4 v5 v6 v7 v8 v9 v10 v11 v12 v13=
 some ([.pv (.int .i64) (PV.int .i64 0), .pv (.int .i64) (PV.int .i64 0)],[]):=by rw[B4,aE];kernel_rfl
theorem Lz:Gy call k v0 v1 v2 v3 v4 v5 v6 v7 v8 v9 v10 v11 v12 v13=
 some ([.pv (.int .i64) (PV.int .i64 1), .pv (.int .i64) (PV.int .i64 0)],[]):=by rw[Gy,aE];kernel_rfl
theorem Iw:zF call k v0 v1 v2 v3 v4 v5 v6 v7 v8 v9 v10 v11 v12 v13=
 some ([.pv (.int .i64) (PV.int .i64 3), .pv (.int .i64) (PV.int .i64 2)],[]):=by rw[zF,aE];kernel_rfl
theorem Ix:zG call k v0 v1 v2 v3 v4 v5 v6 v7 v8 v9 v10 v11 v12=
 some ([.pv (.int .i64) (PV.int .i64 (-1)), .pv (.int .i64) (PV.int .i64 0)],[]):=by rw[zG,aE];kernel_rfl
theorem R80:aW Try.prog H0 call k 80 [.pv (.st 55) x0]=
 bif (x0.cell 0).toStr.data.toList==(ByteArray.mk #[105,110]).data.toList then
 B4 call k (x0.cell 0) (x0.cell 1) (x0.cell 2) (x0.cell 3) (x0.cell 4) (x0.cell 5) (x0.cell 6) (x0.cell 7) (x0.cell 8) (x0.cell 9) (x0.cell 10) (x0.cell 11) (x0.cell 0) (PV.bool true)
 else
 bif (x0.cell 0).toStr.data.toList==(ByteArray.mk #[110,117,109]).data.toList then
 B4 call k (x0.cell 0) (x0.cell 1) (x0.cell 2) (x0.cell 3) (x0.cell 4) (x0.cell 5) (x0.cell 6) (x0.cell 7) (x0.cell 8) (x0.cell 9) (x0.cell 10) (x0.cell 11) (x0.cell 0) (PV.bool true)
 else
 bif (x0.cell 0).toStr.data.toList==(ByteArray.mk #[107,110,111,98]).data.toList then
 B4 call k (x0.cell 0) (x0.cell 1) (x0.cell 2) (x0.cell 3) (x0.cell 4) (x0.cell 5) (x0.cell 6) (x0.cell 7) (x0.cell 8) (x0.cell 9) (x0.cell 10) (x0.cell 11) (x0.cell 0) (PV.bool true)
 else
 bif (x0.cell 0).toStr.data.toList==(ByteArray.mk #[111,110]).data.toList then
 Gy call k (x0.cell 0) (x0.cell 1) (x0.cell 2) (x0.cell 3) (x0.cell 4) (x0.cell 5) (x0.cell 6) (x0.cell 7) (x0.cell 8) (x0.cell 9) (x0.cell 10) (x0.cell 11) (x0.cell 0) (PV.bool true)
 else
 bif (x0.cell 0).toStr.data.toList==(ByteArray.mk #[112,97,114,116]).data.toList then
 Gy call k (x0.cell 0) (x0.cell 1) (x0.cell 2) (x0.cell 3) (x0.cell 4) (x0.cell 5) (x0.cell 6) (x0.cell 7) (x0.cell 8) (x0.cell 9) (x0.cell 10) (x0.cell 11) (x0.cell 0) (PV.bool true)
 else
 bif (x0.cell 0).toStr.data.toList==(ByteArray.mk #[100,101,108,97,121]).data.toList then
 zF call k (x0.cell 0) (x0.cell 1) (x0.cell 2) (x0.cell 3) (x0.cell 4) (x0.cell 5) (x0.cell 6) (x0.cell 7) (x0.cell 8) (x0.cell 9) (x0.cell 10) (x0.cell 11) (x0.cell 0) (PV.bool true)
 else
 bif (x0.cell 0).toStr.data.toList==(ByteArray.mk #[104,111,108,100]).data.toList then
 zF call k (x0.cell 0) (x0.cell 1) (x0.cell 2) (x0.cell 3) (x0.cell 4) (x0.cell 5) (x0.cell 6) (x0.cell 7) (x0.cell 8) (x0.cell 9) (x0.cell 10) (x0.cell 11) (x0.cell 0) (PV.bool true)
 else
 bif (x0.cell 0).toStr.data.toList==(ByteArray.mk #[118,97,114,121]).data.toList then
 some ([.pv (.int .i64) (PV.int .i64 4), .pv (.int .i64) (PV.int .i64 2)],[])
 else
 bif (x0.cell 0).toStr.data.toList==(ByteArray.mk #[119,97,118,101]).data.toList then
 some ([.pv (.int .i64) (PV.int .i64 2), .pv (.int .i64) (PV.int .i64 2)],[])
 else
 bif (x0.cell 0).toStr.data.toList==(ByteArray.mk #[115,116,111,114,101]).data.toList then
 some ([.pv (.int .i64) (PV.int .i64 5), .pv (.int .i64) (PV.int .i64 2)],[])
 else
 bif (x0.cell 0).toStr.data.toList==(ByteArray.mk #[115,104,111,119]).data.toList then
 some ([.pv (.int .i64) (PV.int .i64 2), .pv (.int .i64) (PV.int .i64 1)],[])
 else
 bif (x0.cell 0).toStr.data.toList==(ByteArray.mk #[117,112]).data.toList then
 bif ak (((x0.cell 11).toList.length:Int)) (1)then
 bif au (0) (((x0.cell 11).toList.length:Int))then
 some ([.pv (.int .i64) (PV.int .i64 (IntKind.i64.wrap (((nth default (x0.cell 11).toList 0).cell 0).toInt+2))), .pv (.int .i64) (PV.int .i64 2)],[])
 else
 none
 else
 some ([.pv (.int .i64) (PV.int .i64 (-1)), .pv (.int .i64) (PV.int .i64 0)],[])
 else
 bif (x0.cell 0).toStr.data.toList==(ByteArray.mk #[119,105,114,101]).data.toList then
 zG call k (x0.cell 0) (x0.cell 1) (x0.cell 2) (x0.cell 3) (x0.cell 4) (x0.cell 5) (x0.cell 6) (x0.cell 7) (x0.cell 8) (x0.cell 9) (x0.cell 10) (x0.cell 11) (PV.bool true)
 else
 bif (x0.cell 0).toStr.data.toList==(ByteArray.mk #[99,117,116]).data.toList then
 zG call k (x0.cell 0) (x0.cell 1) (x0.cell 2) (x0.cell 3) (x0.cell 4) (x0.cell 5) (x0.cell 6) (x0.cell 7) (x0.cell 8) (x0.cell 9) (x0.cell 10) (x0.cell 11) (PV.bool true)
 else
 let c0:=call 79 [.pv (.st 142) (PV.agg [fg (ek.pv Ty.str (x0.cell 0)),fg (ek.pv Ty.str (x0.cell 1)),fg (ek.pv (.int .i64) (x0.cell 2)),fg (ek.pv (.int .i64) (x0.cell 3)),fg (ek.pv (.sl 128) (x0.cell 4)),fg (ek.pv Ty.str (x0.cell 5)),fg (ek.pv (.int .i64) (x0.cell 6)),fg (ek.pv (.int .i64) (x0.cell 7)),fg (ek.pv Ty.str (x0.cell 8)),fg (ek.pv Ty.str (x0.cell 9)),PV.sl []])]
 bif cc (List.map (ai Try.prog) #[3,3,29].toList) c0 then
 bif !ak ((bk 2 c0).toInt) (0)then
 some ([.pv (.int .i64) (PV.int .i64 (-1)), .pv (.int .i64) (PV.int .i64 0)],[])
 else
 some ([.pv (.int .i64) (bk 0 c0), .pv (.int .i64) (PV.int .i64 0)],[])
 else
 none:=by rw[aC];kernel_rfl
theorem R81:aW Try.prog H0 call k 81 [.pv (.st 55) x0]=
 bif (x0.cell 0).toStr.data.toList==(ByteArray.mk #[100,101,108,97,121]).data.toList then
 bif aj (2) (((x0.cell 10).toList.length:Int))&&aj (((x0.cell 10).toList.length:Int)) (((x0.cell 10).toList.length:Int))then
 some ([.pv (.sl 3) (PV.sl (List.drop 2 (List.take (((x0.cell 10).toList.length:Int)).toNat (x0.cell 10).toList)))],[])
 else
 none
 else
 bif (x0.cell 0).toStr.data.toList==(ByteArray.mk #[118,97,114,121]).data.toList then
 bif au (0) ((x0.cell 2).toInt)then
 bif au (1) (((x0.cell 10).toList.length:Int))then
 bif au (3) (((x0.cell 10).toList.length:Int))then
 some ([.arr 3 [nth default (x0.cell 10).toList 3,nth default (x0.cell 10).toList 1].reverse],[])
 else
 none
 else
 none
 else
 bif au (0) (((x0.cell 10).toList.length:Int))then
 bif au (1) (((x0.cell 10).toList.length:Int))then
 bif au (3) (((x0.cell 10).toList.length:Int))then
 some ([.arr 3 [nth default (x0.cell 10).toList 3,nth default (x0.cell 10).toList 1,nth default (x0.cell 10).toList 0].reverse],[])
 else
 none
 else
 none
 else
 none
 else
 bif (x0.cell 0).toStr.data.toList==(ByteArray.mk #[119,97,118,101]).data.toList then
 bif aj (1) (((x0.cell 10).toList.length:Int))&&aj (((x0.cell 10).toList.length:Int)) (((x0.cell 10).toList.length:Int))then
 some ([.pv (.sl 3) (PV.sl (List.drop 1 (List.take (((x0.cell 10).toList.length:Int)).toNat (x0.cell 10).toList)))],[])
 else
 none
 else
 bif (x0.cell 0).toStr.data.toList==(ByteArray.mk #[115,116,111,114,101]).data.toList then
 bif au (2) (((x0.cell 10).toList.length:Int))then
 bif au (4) (((x0.cell 10).toList.length:Int))then
 some ([.arr 3 [nth default (x0.cell 10).toList 4,nth default (x0.cell 10).toList 2].reverse],[])
 else
 none
 else
 none
 else
 some ([.pv (.sl 3) (x0.cell 10)],[]):=by rw[aC];kernel_rfl
noncomputable def LA:R:=jn call k 91 17 [.b,.b,.b,.b,.b,.a,.a] (dd::dd::oI v0::oI v1::ds 77 [])
noncomputable def Ps:R:=jn call k 91 9 [.b,.b,.b,.b,.a,.b,.x,.b,.x] (dd::dd::oI v0::oI v1::ds 41 (oB v2::ds 35 []))
theorem R91:aW Try.prog H0 call k 91 [.pv (.st 142) x0]=
 bif ak (((x0.cell 10).toList.length:Int)) (0)then
 let c0:=call 98 [.pv Ty.str (x0.cell 0)]
 bif cc (List.map (ai Try.prog) #[3,3,4].toList) c0 then
 some ([.pv (.int .i64) (bk 0 c0), .pv (.int .i64) (bk 1 c0), .pv (.int .i64) (PV.int .i64 0)],[])
 else
 none
 else
 bif au (0) (((x0.cell 10).toList.length:Int))then
 let c1:=call 91 [.pv (.st 142) (nth default (x0.cell 10).toList 0)]
 bif cc (List.map (ai Try.prog) #[3,3,29].toList) c1 then
 bif !ak ((bk 2 c1).toInt) (0)then
 some ([.pv (.int .i64) (PV.int .i64 0), .pv (.int .i64) (PV.int .i64 0), .pv (.int .i64) (bk 2 c1)],[])
 else
 bif ak (((x0.cell 10).toList.length:Int)) (1)then
 bif (x0.cell 0).toStr.data.toList==(ByteArray.mk #[103,97,116,101]).data.toList then
 Ps call k (bk 0 c1) (bk 1 c1) (PV.bool true)
 else
 bif (x0.cell 0).toStr.data.toList==(ByteArray.mk #[114,101,115,101,116]).data.toList then
 Ps call k (bk 0 c1) (bk 1 c1) (PV.bool true)
 else
 LA call k (bk 0 c1) (bk 1 c1)
 else
 bif au (1) (((x0.cell 10).toList.length:Int))then
 let c2:=call 91 [.pv (.st 142) (nth default (x0.cell 10).toList 1)]
 bif cc (List.map (ai Try.prog) #[3,3,29].toList) c2 then
 bif !ak ((bk 2 c2).toInt) (0)then
 some ([.pv (.int .i64) (PV.int .i64 0), .pv (.int .i64) (PV.int .i64 0), .pv (.int .i64) (bk 2 c2)],[])
 else
 let c3:=call 99 [.pv Ty.str (x0.cell 0), .pv (.int .i64) (bk 0 c1), .pv (.int .i64) (bk 1 c1), .pv (.int .i64) (bk 0 c2), .pv (.int .i64) (bk 1 c2)]
 bif cc (List.map (ai Try.prog) #[3,3,4].toList) c3 then
 bif !(bk 2 c3).toBool then
 some ([.pv (.int .i64) (PV.int .i64 0), .pv (.int .i64) (PV.int .i64 0), .pv (.int .i64) (PV.int .i64 50)],[])
 else
 LA call k (bk 0 c3) (bk 1 c3)
 else
 none
 else
 none
 else
 none
 else
 none
 else
 none:=by rw[aC];kernel_rfl
end Go.V
