/- Written by mirror.py: what functions of the program come to. -/
import Derived.Test.YteeclgeoconekaaNm
namespace Go.Proofs.Yteeclgeoconekaa
open Go.Ev

/-! ### 16: purlin/purlinlaw0.OverBytes -/
def st_purlinlaw0_OverBytes_1 (a0 : Value) (a2 : Int) : List Value := mkR 15 [(0, a0), (2, (.int .i64 a2))]
def ex_purlinlaw0_OverBytes_1 (a0 : Value) : List Value := mkR 15 [(0, a0)]
def tt_purlinlaw0_OverBytes_1 (CK : CallP) (w : Nat) : RunP := fun r M κ => evP Try.prog EvA.E EvA.q (EvA.reg F_purlinlaw0_OverBytes) CK w (Code.sub (codeOf Try.prog F_purlinlaw0_OverBytes) [0, 1, 0, 0]) r M (backP (headLive (EvA.reg F_purlinlaw0_OverBytes) (Code.sub (codeOf Try.prog F_purlinlaw0_OverBytes) [0, 1, 0, 0])) (exitLive (EvA.reg F_purlinlaw0_OverBytes) (Code.sub (codeOf Try.prog F_purlinlaw0_OverBytes) [0, 1, 0, 0])) κ)
def lp_purlinlaw0_OverBytes_1 (CK : CallP) (w : Nat) (a0 : Value) (a2 : Int) (M : Mem) (κ : KontP) : Prop := loopP (tt_purlinlaw0_OverBytes_1 CK w) (st_purlinlaw0_OverBytes_1 a0 a2) M κ
def kk_purlinlaw0_OverBytes_1 (CK : CallP) (w : Nat) (κF : KontP) : KontP := (blockK (EvA.reg F_purlinlaw0_OverBytes) 0 (seqK Try.prog EvA.E EvA.q (EvA.reg F_purlinlaw0_OverBytes) CK w (Code.sub (codeOf Try.prog F_purlinlaw0_OverBytes) [1]) κF))
theorem bd_purlinlaw0_OverBytes (CK : CallP) (a0 : Value) (M : Mem) (w0 : Nat) (Q : OutP) : bodyP Try.prog EvA CK F_purlinlaw0_OverBytes [a0] M w0 Q =
(fun (w : Nat) (κF : KontP) (κR : Value → Mem → Prop) =>
lp_purlinlaw0_OverBytes_1 CK w a0 0 M (kk_purlinlaw0_OverBytes_1 CK w κF)) w0 (retP Try.prog false M Try.f16 Q) (outP Q) := by kernel_rfl
theorem rd_purlinlaw0_OverBytes_1 (CK : CallP) (w : Nat) (a0 : Value) (a2 : Int) (M : Mem) (κ : KontP) : tt_purlinlaw0_OverBytes_1 CK w (st_purlinlaw0_OverBytes_1 a0 a2) M (nextK (tt_purlinlaw0_OverBytes_1 CK w) κ) =
(chkP (isSlV a0) <|
cond (decide (a2 < (lenOf a0 : Int)))
(ixS 1 a0 a2 fun (v1 : Value) =>
st1 w M v1 (.int .u8 238) fun (M2 : Mem) =>
lp_purlinlaw0_OverBytes_1 CK w a0 (wr (a2 + 1)) M2 κ)
(κ (.exit 0) (ex_purlinlaw0_OverBytes_1 a0) M)) := by kernel_rfl
theorem ke_purlinlaw0_OverBytes_1_0 (CK : CallP) (w : Nat) (a0 : Value) (M0 M : Mem) (Q : OutP) : kk_purlinlaw0_OverBytes_1 CK w (retP Try.prog false M0 Try.f16 Q) (.exit 0) (ex_purlinlaw0_OverBytes_1 a0) M =
(fun (κF : KontP) (κR : Value → Mem → Prop) =>
mkL T_uint8 1 M [(.int .u8 238)] fun (v4 : Value) (M3 : Mem) =>
apA T_uint8 1 1 w M3 a0 (srcP M3 1 v4) fun (v6 : Value) (M5 : Mem) =>
κR (.tuple [].toArray) M5) (retP Try.prog false M0 Try.f16 Q) (outP Q) := by kernel_rfl

/-! ### 17: purlin/disk.New -/
def st_disk_New_5 (a3 : Value) (a12 : Int) (a13 : Int) : List Value := mkR 27 [(3, a3), (12, (.int .i64 a12)), (13, (.int .i64 a13))]
def ex_disk_New_5 (a3 : Value) : List Value := mkR 27 [(3, a3)]
def tt_disk_New_5 (CK : CallP) (w : Nat) : RunP := fun r M κ => evP Try.prog EvA.E EvA.q (EvA.reg F_disk_New) CK w (Code.sub (codeOf Try.prog F_disk_New) [1, 1, 1, 0, 1, 0, 0]) r M (backP (headLive (EvA.reg F_disk_New) (Code.sub (codeOf Try.prog F_disk_New) [1, 1, 1, 0, 1, 0, 0])) (exitLive (EvA.reg F_disk_New) (Code.sub (codeOf Try.prog F_disk_New) [1, 1, 1, 0, 1, 0, 0])) κ)
def lp_disk_New_5 (CK : CallP) (w : Nat) (a3 : Value) (a12 : Int) (a13 : Int) (M : Mem) (κ : KontP) : Prop := loopP (tt_disk_New_5 CK w) (st_disk_New_5 a3 a12 a13) M κ
def kk_disk_New_5 (CK : CallP) (w : Nat) (κF : KontP) : KontP := (blockK (EvA.reg F_disk_New) 0 (seqK Try.prog EvA.E EvA.q (EvA.reg F_disk_New) CK w (Code.sub (codeOf Try.prog F_disk_New) [1, 1, 1, 1]) κF))
theorem bd_disk_New (CK : CallP) (a0 : Int) (M : Mem) (w0 : Nat) (Q : OutP) : bodyP Try.prog EvA CK F_disk_New [(.int .i64 a0)] M w0 Q =
(fun (w : Nat) (κF : KontP) (κT : Value → Mem → Prop) =>
cond (decide (a0 < 1))
(κT (.pointer none) M)
(cond (decide (2048 < a0))
(κT (.pointer none) M)
(boxC T_disk_Disk M [(Value.slice none 0 0), (Value.slice none 0 0), (.bool true), (Value.pointer none), (Value.slice none 0 0), (Value.int .i64 0)] fun (v2 : Value) (M1 : Mem) =>
lp_disk_New_5 CK w v2 a0 0 M1 (kk_disk_New_5 CK w κF)))) M.length (retP Try.prog true M Try.f17 Q) (outT Try.prog Q M) := by kernel_rfl
theorem rd_disk_New_5 (CK : CallP) (w : Nat) (a3 : Value) (a12 : Int) (a13 : Int) (M : Mem) (κ : KontP) : tt_disk_New_5 CK w (st_disk_New_5 a3 a12 a13) M (nextK (tt_disk_New_5 CK w) κ) =
(cond (decide (a13 < a12))
(nilck a3 <|
fldA (pOf a3) 0 fun (v3 : Value) =>
ld fV M v3 fun (v4 : Value) =>
mkS T_uint8 1 [(Value.int .u8 0)] M 128 128 fun (v6 : Value) (M5 : Mem) =>
chkP (one1 v6 && true) <|
mkL T_s_uint8 1 M5 [v6] fun (v8 : Value) (M7 : Mem) =>
apA T_s_uint8 1 24 w M7 v4 (srcP M7 1 v8) fun (v10 : Value) (M9 : Mem) =>
nilck a3 <|
fldA (pOf a3) 0 fun (v11 : Value) =>
st1 w M9 v11 v10 fun (M12 : Mem) =>
lp_disk_New_5 CK w a3 a12 (wr (a13 + 1)) M12 κ)
(κ (.exit 0) (ex_disk_New_5 a3) M)) := by kernel_rfl
theorem ke_disk_New_5_0 (CK : CallP) (w : Nat) (a3 : Value) (M0 M : Mem) (Q : OutP) : kk_disk_New_5 CK w (retP Try.prog true M0 Try.f17 Q) (.exit 0) (ex_disk_New_5 a3) M =
(fun (κF : KontP) (κT : Value → Mem → Prop) =>
κT a3 M) (retP Try.prog true M0 Try.f17 Q) (outT Try.prog Q M0) := by kernel_rfl

/-! ### 18: (*purlin/disk.Disk).Write -/
theorem bd_disk_Disk_Write (CK : CallP) (a0 : Value) (a1 : Int) (a2 : Value) (M : Mem) (w0 : Nat) (Q : OutP) : bodyP Try.prog EvA CK F_disk_Disk_Write [a0, (.int .i64 a1), a2] M w0 Q =
(fun (w : Nat) (κF : KontP) (κR : Value → Mem → Prop) =>
c1 fB CK F_disk_Disk_there [a0, (.int .i64 a1)] M M.length fun (b2 : Bool) (M1 : Mem) =>
cond b2
(chkP (isSlV a2) <|
c1 (fI .i64) CK F_disk_Disk_asked [a0, (.bool ((lenOf a2 : Int) == 128))] M1 M1.length fun (n4 : Int) (M3 : Mem) =>
cond (n4 != 0)
(κR (.int .i64 n4) M3)
(c1 fB CK F_disk_Disk_falls [a0] M3 w fun (b6 : Bool) (M5 : Mem) =>
cond b6
(κR (.int .i64 4) M5)
(nilck a0 <|
fldA (pOf a0) 1 fun (v7 : Value) =>
ld fV M5 v7 fun (v8 : Value) =>
c1 fV (dP CK) F_slices_Clone_bytes_byte [a2] M5 M5.length fun (v10 : Value) (M9 : Mem) =>
chkP (one1 v10 && true) <|
chkP ((Value.oneCell' v10 && true) && true) <|
mkL T_disk_write 1 M9 [(.int .i64 a1), v10] fun (v12 : Value) (M11 : Mem) =>
apA T_disk_write 2 32 w M11 v8 (srcP M11 2 v12) fun (v14 : Value) (M13 : Mem) =>
nilck a0 <|
fldA (pOf a0) 1 fun (v15 : Value) =>
st1 w M13 v15 v14 fun (M16 : Mem) =>
nilck a0 <|
fldA (pOf a0) 4 fun (v17 : Value) =>
ld fV M16 v17 fun (v18 : Value) =>
mkL T_int 1 M16 [(.int .i64 a1)] fun (v20 : Value) (M19 : Mem) =>
apA T_int 1 8 w M19 v18 (srcP M19 1 v20) fun (v22 : Value) (M21 : Mem) =>
nilck a0 <|
fldA (pOf a0) 4 fun (v23 : Value) =>
st1 w M21 v23 v22 fun (M24 : Mem) =>
κR (.int .i64 0) M24)))
(c1 (fI .i64) CK F_disk_Disk_asked [a0, (.bool false)] M1 M1.length fun (n26 : Int) (M25 : Mem) =>
cond (n26 != 0)
(κR (.int .i64 n26) M25)
(c1 fB CK F_disk_Disk_falls [a0] M25 w fun (b28 : Bool) (M27 : Mem) =>
cond b28
(κR (.int .i64 4) M27)
(nilck a0 <|
fldA (pOf a0) 1 fun (v29 : Value) =>
ld fV M27 v29 fun (v30 : Value) =>
c1 fV (dP CK) F_slices_Clone_bytes_byte [a2] M27 M27.length fun (v32 : Value) (M31 : Mem) =>
chkP (one1 v32 && true) <|
chkP ((Value.oneCell' v32 && true) && true) <|
mkL T_disk_write 1 M31 [(.int .i64 a1), v32] fun (v34 : Value) (M33 : Mem) =>
apA T_disk_write 2 32 w M33 v30 (srcP M33 2 v34) fun (v36 : Value) (M35 : Mem) =>
nilck a0 <|
fldA (pOf a0) 1 fun (v37 : Value) =>
st1 w M35 v37 v36 fun (M38 : Mem) =>
nilck a0 <|
fldA (pOf a0) 4 fun (v39 : Value) =>
ld fV M38 v39 fun (v40 : Value) =>
mkL T_int 1 M38 [(.int .i64 a1)] fun (v42 : Value) (M41 : Mem) =>
apA T_int 1 8 w M41 v40 (srcP M41 1 v42) fun (v44 : Value) (M43 : Mem) =>
nilck a0 <|
fldA (pOf a0) 4 fun (v45 : Value) =>
st1 w M43 v45 v44 fun (M46 : Mem) =>
κR (.int .i64 0) M46)))) w0 (retP Try.prog false M Try.f18 Q) (outP Q) := by kernel_rfl

/-! ### 20: purlin/mkfs.Format -/
def st_mkfs_Format_8 (a0 : Value) (a27 : Value) (a28 : Int) (a29 : Int) : List Value := mkR 44 [(0, a0), (27, a27), (28, (.int .i64 a28)), (29, (.int .i64 a29))]
def ex_mkfs_Format_8 (a0 : Value) (a4 : Int) : List Value := mkR 44 [(0, a0), (4, (.int .i64 a4))]
def tt_mkfs_Format_8 (CK : CallP) (w : Nat) : RunP := fun r M κ => evP Try.prog EvA.E EvA.q (EvA.reg F_mkfs_Format) CK w (Code.sub (codeOf Try.prog F_mkfs_Format) [1, 1, 0, 1, 0, 0]) r M (backP (headLive (EvA.reg F_mkfs_Format) (Code.sub (codeOf Try.prog F_mkfs_Format) [1, 1, 0, 1, 0, 0])) (exitLive (EvA.reg F_mkfs_Format) (Code.sub (codeOf Try.prog F_mkfs_Format) [1, 1, 0, 1, 0, 0])) κ)
def lp_mkfs_Format_8 (CK : CallP) (w : Nat) (a0 : Value) (a27 : Value) (a28 : Int) (a29 : Int) (M : Mem) (κ : KontP) : Prop := loopP (tt_mkfs_Format_8 CK w) (st_mkfs_Format_8 a0 a27 a28 a29) M κ
def kk_mkfs_Format_8 (CK : CallP) (w : Nat) (κF : KontP) : KontP := (blockK (EvA.reg F_mkfs_Format) 1 (seqK Try.prog EvA.E EvA.q (EvA.reg F_mkfs_Format) CK w (Code.sub (codeOf Try.prog F_mkfs_Format) [1, 1, 1]) κF))
theorem bd_mkfs_Format (CK : CallP) (a0 : Value) (a1 : List Value) (M : Mem) (w0 : Nat) (Q : OutP) : bodyP Try.prog EvA CK F_mkfs_Format [a0, (.agg a1.toArray)] M w0 Q =
(fun (w : Nat) (κF : KontP) (κR : Value → Mem → Prop) =>
boxC T_api_Geometry M a1 fun (v2 : Value) (M1 : Mem) =>
chkP (isPtrV a0) <|
cond (isNilP a0)
(κR (.int .i64 1) M1)
(c1 fB CK F_disk_Disk_On [a0] M1 M1.length fun (b4 : Bool) (M3 : Mem) =>
cond (!b4)
(κR (.int .i64 4) M3)
(ldA [(Value.int .i64 0), (Value.int .i64 0), (Value.int .i64 0)] 3 M3 v2 fun (xs5 : List Value) =>
c1 fB CK F_geom_May [(.agg xs5.toArray)] M3 M3.length fun (b7 : Bool) (M6 : Mem) =>
cond (!b7)
(κR (.int .i64 2) M6)
(ldA [(Value.int .i64 0), (Value.int .i64 0), (Value.int .i64 0)] 3 M6 v2 fun (xs8 : List Value) =>
c1 (fI .i64) CK F_geom_Sectors [(.agg xs8.toArray)] M6 M6.length fun (n10 : Int) (M9 : Mem) =>
c1 (fI .i64) CK F_disk_Disk_Sectors [a0] M9 M9.length fun (n12 : Int) (M11 : Mem) =>
cond (n10 != n12)
(κR (.int .i64 2) M11)
(ldA [(Value.int .i64 0), (Value.int .i64 0), (Value.int .i64 0)] 3 M11 v2 fun (xs13 : List Value) =>
c1 fV CK F_mkfs_Image [(.agg xs13.toArray)] M11 M11.length fun (v15 : Value) (M14 : Mem) =>
chkP (isSlV v15) <|
lp_mkfs_Format_8 CK w a0 v15 (lenOf v15 : Int) 0 M14 (kk_mkfs_Format_8 CK w κF)))))) w0 (retP Try.prog false M Try.f20 Q) (outP Q) := by kernel_rfl
theorem rd_mkfs_Format_8 (CK : CallP) (w : Nat) (a0 : Value) (a27 : Value) (a28 : Int) (a29 : Int) (M : Mem) (κ : KontP) : tt_mkfs_Format_8 CK w (st_mkfs_Format_8 a0 a27 a28 a29) M (nextK (tt_mkfs_Format_8 CK w) κ) =
(cond (decide (a29 < a28))
(ixS 1 a27 a29 fun (v16 : Value) =>
ld fV M v16 fun (v17 : Value) =>
c1 (fI .i64) CK F_disk_Disk_Write [a0, (.int .i64 a29), v17] M w fun (n19 : Int) (M18 : Mem) =>
cond (n19 != 0)
(κ .ret (ex_mkfs_Format_8 a0 n19) M18)
(lp_mkfs_Format_8 CK w a0 a27 a28 (wr (a29 + 1)) M18 κ))
(κ (.exit 1) (mkR 44 [(0, a0)]) M)) := by kernel_rfl
theorem ke_mkfs_Format_8_1 (CK : CallP) (w : Nat) (a0 : Value) (a4 : Int) (M0 M : Mem) (Q : OutP) : kk_mkfs_Format_8 CK w (retP Try.prog false M0 Try.f20 Q) (.exit 1) (ex_mkfs_Format_8 a0 a4) M =
(fun (κF : KontP) (κR : Value → Mem → Prop) =>
c1 (fI .i64) CK F_disk_Disk_Flush [a0] M w fun (n21 : Int) (M20 : Mem) =>
κR (.int .i64 n21) M20) (retP Try.prog false M0 Try.f20 Q) (outP Q) := by kernel_rfl
theorem ke_mkfs_Format_8_ret (CK : CallP) (w : Nat) (a0 : Value) (a4 : Int) (M0 M : Mem) (Q : OutP) : kk_mkfs_Format_8 CK w (retP Try.prog false M0 Try.f20 Q) .ret (ex_mkfs_Format_8 a0 a4) M =
(fun (κF : KontP) (κR : Value → Mem → Prop) =>
κR (.int .i64 a4) M) (retP Try.prog false M0 Try.f20 Q) (outP Q) := by kernel_rfl

/-! ### 21: (*purlin/disk.Disk).Crash -/
def st_disk_Disk_Crash_2 (a0 : Value) (a1 : Value) (a11 : Value) (a12 : Int) (a13 : Int) : List Value := mkR 49 [(0, a0), (1, a1), (11, a11), (12, (.int .i64 a12)), (13, (.int .i64 a13))]
def ex_disk_Disk_Crash_2 (a0 : Value) : List Value := mkR 49 [(0, a0)]
def tt_disk_Disk_Crash_2 (CK : CallP) (w : Nat) : RunP := fun r M κ => evP Try.prog EvA.E EvA.q (EvA.reg F_disk_Disk_Crash) CK w (Code.sub (codeOf Try.prog F_disk_Disk_Crash) [1, 0, 1, 0, 0]) r M (backP (headLive (EvA.reg F_disk_Disk_Crash) (Code.sub (codeOf Try.prog F_disk_Disk_Crash) [1, 0, 1, 0, 0])) (exitLive (EvA.reg F_disk_Disk_Crash) (Code.sub (codeOf Try.prog F_disk_Disk_Crash) [1, 0, 1, 0, 0])) κ)
def lp_disk_Disk_Crash_2 (CK : CallP) (w : Nat) (a0 : Value) (a1 : Value) (a11 : Value) (a12 : Int) (a13 : Int) (M : Mem) (κ : KontP) : Prop := loopP (tt_disk_Disk_Crash_2 CK w) (st_disk_Disk_Crash_2 a0 a1 a11 a12 a13) M κ
def kk_disk_Disk_Crash_2 (CK : CallP) (w : Nat) (κF : KontP) : KontP := (blockK (EvA.reg F_disk_Disk_Crash) 0 (seqK Try.prog EvA.E EvA.q (EvA.reg F_disk_Disk_Crash) CK w (Code.sub (codeOf Try.prog F_disk_Disk_Crash) [1, 1]) κF))
theorem bd_disk_Disk_Crash (CK : CallP) (a0 : Value) (a1 : Value) (M : Mem) (w0 : Nat) (Q : OutP) : bodyP Try.prog EvA CK F_disk_Disk_Crash [a0, a1] M w0 Q =
(fun (w : Nat) (κF : KontP) (κR : Value → Mem → Prop) =>
chkP (isPtrV a0) <|
cond (isNilP a0)
(κR (.tuple [].toArray) M)
(nilck a0 <|
fldA (pOf a0) 1 fun (v1 : Value) =>
ld fV M v1 fun (v2 : Value) =>
chkP (isSlV v2) <|
lp_disk_Disk_Crash_2 CK w a0 a1 v2 (lenOf v2 : Int) 0 M (kk_disk_Disk_Crash_2 CK w κF))) w0 (retP Try.prog false M Try.f21 Q) (outP Q) := by kernel_rfl
theorem rd_disk_Disk_Crash_2 (CK : CallP) (w : Nat) (a0 : Value) (a1 : Value) (a11 : Value) (a12 : Int) (a13 : Int) (M : Mem) (κ : KontP) : tt_disk_Disk_Crash_2 CK w (st_disk_Disk_Crash_2 a0 a1 a11 a12 a13) M (nextK (tt_disk_Disk_Crash_2 CK w) κ) =
(cond (decide (a13 < a12))
(ixS 2 a11 a13 fun (v3 : Value) =>
ldA [(Value.int .i64 0), (Value.slice none 0 0)] 2 M v3 fun (xs4 : List Value) =>
allocC T_disk_write M [(Value.int .i64 0), (Value.slice none 0 0)] fun (v6 : Value) (M5 : Mem) =>
stA 2 w M5 v6 xs4 fun (M7 : Mem) =>
chkP (isSlV a1) <|
cond (decide (0 < (lenOf a1 : Int)))
(chkP (isSlV a1) <|
chkP (!((lenOf a1 : Int) == 0)) <|
ixS 1 a1 (a13.tmod (lenOf a1 : Int)) fun (v8 : Value) =>
ld fB M7 v8 fun (b9 : Bool) =>
cond b9
(nilck a0 <|
fldA (pOf a0) 0 fun (v10 : Value) =>
fldA v6 0 fun (v11 : Value) =>
fldA v6 1 fun (v12 : Value) =>
ld fV M7 v10 fun (v13 : Value) =>
ldI .i64 M7 v11 fun (n14 : Int) =>
ld fV M7 v12 fun (v15 : Value) =>
ixS 1 v13 n14 fun (v16 : Value) =>
st1 w M7 v16 v15 fun (M17 : Mem) =>
lp_disk_Disk_Crash_2 CK w a0 a1 a11 a12 (wr (a13 + 1)) M17 κ)
(lp_disk_Disk_Crash_2 CK w a0 a1 a11 a12 (wr (a13 + 1)) M7 κ))
(lp_disk_Disk_Crash_2 CK w a0 a1 a11 a12 (wr (a13 + 1)) M7 κ))
(κ (.exit 0) (ex_disk_Disk_Crash_2 a0) M)) := by kernel_rfl
theorem ke_disk_Disk_Crash_2_0 (CK : CallP) (w : Nat) (a0 : Value) (M0 M : Mem) (Q : OutP) : kk_disk_Disk_Crash_2 CK w (retP Try.prog false M0 Try.f21 Q) (.exit 0) (ex_disk_Disk_Crash_2 a0) M =
(fun (κF : KontP) (κR : Value → Mem → Prop) =>
nilck a0 <|
fldA (pOf a0) 1 fun (v18 : Value) =>
st1 w M v18 (.slice none 0 0) fun (M19 : Mem) =>
nilck a0 <|
fldA (pOf a0) 3 fun (v20 : Value) =>
st1 w M19 v20 (.pointer none) fun (M21 : Mem) =>
nilck a0 <|
fldA (pOf a0) 2 fun (v22 : Value) =>
st1 w M21 v22 (.bool false) fun (M23 : Mem) =>
κR (.tuple [].toArray) M23) (retP Try.prog false M0 Try.f21 Q) (outP Q) := by kernel_rfl

/-! ### 22: (*purlin/disk.Disk).Image -/
def st_disk_Disk_Image_5 (a3 : Value) (a11 : Value) (a12 : Int) (a13 : Int) : List Value := mkR 24 [(3, a3), (11, a11), (12, (.int .i64 a12)), (13, (.int .i64 a13))]
def ex_disk_Disk_Image_5 (a3 : Value) : List Value := mkR 24 [(3, a3)]
def tt_disk_Disk_Image_5 (CK : CallP) (w : Nat) : RunP := fun r M κ => evP Try.prog EvA.E EvA.q (EvA.reg F_disk_Disk_Image) CK w (Code.sub (codeOf Try.prog F_disk_Disk_Image) [1, 1, 1, 0, 1, 0, 0]) r M (backP (headLive (EvA.reg F_disk_Disk_Image) (Code.sub (codeOf Try.prog F_disk_Disk_Image) [1, 1, 1, 0, 1, 0, 0])) (exitLive (EvA.reg F_disk_Disk_Image) (Code.sub (codeOf Try.prog F_disk_Disk_Image) [1, 1, 1, 0, 1, 0, 0])) κ)
def lp_disk_Disk_Image_5 (CK : CallP) (w : Nat) (a3 : Value) (a11 : Value) (a12 : Int) (a13 : Int) (M : Mem) (κ : KontP) : Prop := loopP (tt_disk_Disk_Image_5 CK w) (st_disk_Disk_Image_5 a3 a11 a12 a13) M κ
def kk_disk_Disk_Image_5 (CK : CallP) (w : Nat) (κF : KontP) : KontP := (blockK (EvA.reg F_disk_Disk_Image) 0 (seqK Try.prog EvA.E EvA.q (EvA.reg F_disk_Disk_Image) CK w (Code.sub (codeOf Try.prog F_disk_Disk_Image) [1, 1, 1, 1]) κF))
theorem bd_disk_Disk_Image (CK : CallP) (a0 : Value) (M : Mem) (w0 : Nat) (Q : OutP) : bodyP Try.prog EvA CK F_disk_Disk_Image [a0] M w0 Q =
(fun (w : Nat) (κF : KontP) (κT : Value → Mem → Prop) =>
chkP (isPtrV a0) <|
cond (isNilP a0)
(κT (.slice none 0 0) M)
(nilck a0 <|
fldA (pOf a0) 0 fun (v1 : Value) =>
ld fV M v1 fun (v2 : Value) =>
chkP (isSlV v2) <|
lp_disk_Disk_Image_5 CK w (.slice none 0 0) v2 (lenOf v2 : Int) 0 M (kk_disk_Disk_Image_5 CK w κF))) M.length (retP Try.prog true M Try.f22 Q) (outT Try.prog Q M) := by kernel_rfl
theorem rd_disk_Disk_Image_5 (CK : CallP) (w : Nat) (a3 : Value) (a11 : Value) (a12 : Int) (a13 : Int) (M : Mem) (κ : KontP) : tt_disk_Disk_Image_5 CK w (st_disk_Disk_Image_5 a3 a11 a12 a13) M (nextK (tt_disk_Disk_Image_5 CK w) κ) =
(cond (decide (a13 < a12))
(ixS 1 a11 a13 fun (v3 : Value) =>
ld fV M v3 fun (v4 : Value) =>
c1 fV CK F_slices_Clone_bytes_byte [v4] M M.length fun (v6 : Value) (M5 : Mem) =>
chkP (one1 v6 && true) <|
mkL T_s_uint8 1 M5 [v6] fun (v8 : Value) (M7 : Mem) =>
apA T_s_uint8 1 24 w M7 a3 (srcP M7 1 v8) fun (v10 : Value) (M9 : Mem) =>
lp_disk_Disk_Image_5 CK w v10 a11 a12 (wr (a13 + 1)) M9 κ)
(κ (.exit 0) (ex_disk_Disk_Image_5 a3) M)) := by kernel_rfl
theorem ke_disk_Disk_Image_5_0 (CK : CallP) (w : Nat) (a3 : Value) (M0 M : Mem) (Q : OutP) : kk_disk_Disk_Image_5 CK w (retP Try.prog true M0 Try.f22 Q) (.exit 0) (ex_disk_Disk_Image_5 a3) M =
(fun (κF : KontP) (κT : Value → Mem → Prop) =>
κT a3 M) (retP Try.prog true M0 Try.f22 Q) (outT Try.prog Q M0) := by kernel_rfl

/-! ### 45: (*purlin/disk.Disk).asked -/
theorem bd_disk_Disk_asked (CK : CallP) (a0 : Value) (a1 : Bool) (M : Mem) (w0 : Nat) (Q : OutP) : bodyP Try.prog EvA CK F_disk_Disk_asked [a0, (.bool a1)] M w0 Q =
(fun (w : Nat) (κF : KontP) (κT : Value → Mem → Prop) =>
chkP (isPtrV a0) <|
cond (isNilP a0)
(κT (.int .i64 1) M)
(nilck a0 <|
fldA (pOf a0) 2 fun (v1 : Value) =>
ld fB M v1 fun (b2 : Bool) =>
cond (!b2)
(κT (.int .i64 4) M)
(cond (!a1)
(κT (.int .i64 2) M)
(κT (.int .i64 0) M)))) M.length (retP Try.prog true M Try.f45 Q) (outT Try.prog Q M) := by kernel_rfl

/-! ### 46: (*purlin/disk.Disk).there -/
theorem bd_disk_Disk_there (CK : CallP) (a0 : Value) (a1 : Int) (M : Mem) (w0 : Nat) (Q : OutP) : bodyP Try.prog EvA CK F_disk_Disk_there [a0, (.int .i64 a1)] M w0 Q =
(fun (w : Nat) (κF : KontP) (κT : Value → Mem → Prop) =>
cond (decide (0 ≤ a1))
(c1 (fI .i64) CK F_disk_Disk_Sectors [a0] M M.length fun (n2 : Int) (M1 : Mem) =>
κT (.bool (decide (a1 < n2))) M1)
(κT (.bool false) M)) M.length (retP Try.prog true M Try.f46 Q) (outT Try.prog Q M) := by kernel_rfl

/-! ### 47: (*purlin/disk.Disk).falls -/
theorem bd_disk_Disk_falls (CK : CallP) (a0 : Value) (M : Mem) (w0 : Nat) (Q : OutP) : bodyP Try.prog EvA CK F_disk_Disk_falls [a0] M w0 Q =
(fun (w : Nat) (κF : KontP) (κR : Value → Mem → Prop) =>
nilck a0 <|
fldA (pOf a0) 3 fun (v1 : Value) =>
ld fV M v1 fun (v2 : Value) =>
chkP (isPtrV v2) <|
cond (isNilP v2)
(κR (.bool false) M)
(nilck a0 <|
fldA (pOf a0) 3 fun (v3 : Value) =>
ld fV M v3 fun (v4 : Value) =>
nilck v4 <|
fldA (pOf v4) 0 fun (v5 : Value) =>
ldI .i64 M v5 fun (n6 : Int) =>
cond (decide (0 < n6))
(nilck a0 <|
fldA (pOf a0) 3 fun (v7 : Value) =>
ld fV M v7 fun (v8 : Value) =>
nilck v8 <|
fldA (pOf v8) 0 fun (v9 : Value) =>
ldI .i64 M v9 fun (n10 : Int) =>
nilck v8 <|
fldA (pOf v8) 0 fun (v11 : Value) =>
st1 w M v11 (.int .i64 (wr (n10 - 1))) fun (M12 : Mem) =>
κR (.bool false) M12)
(nilck a0 <|
fldA (pOf a0) 3 fun (v13 : Value) =>
ld fV M v13 fun (v14 : Value) =>
nilck v14 <|
fldA (pOf v14) 1 fun (v15 : Value) =>
ld fV M v15 fun (v16 : Value) =>
c0 CK F_disk_Disk_Crash [a0, v16] M w fun (M17 : Mem) =>
κR (.bool true) M17))) w0 (retP Try.prog false M Try.f47 Q) (outP Q) := by kernel_rfl

/-! ### 48: slices.Clone[[]byte,byte] -/
theorem bd_slices_Clone_bytes_byte (CK : CallP) (a0 : Value) (M : Mem) (w0 : Nat) (Q : OutP) : bodyP Try.prog EvA CK F_slices_Clone_bytes_byte [a0] M w0 Q =
(fun (w : Nat) (κF : KontP) (κT : Value → Mem → Prop) =>
chkP (isSlV a0) <|
cond (isNilS a0)
(κT (.slice none 0 0) M)
(mkL T_uint8 0 M [] fun (v2 : Value) (M1 : Mem) =>
apA T_uint8 1 1 w M1 v2 (srcP M1 1 a0) fun (v4 : Value) (M3 : Mem) =>
κT v4 M3)) M.length (retP Try.prog true M Try.f48 Q) (outT Try.prog Q M) := by kernel_rfl

/-! ### 49: (*purlin/disk.Disk).On -/
theorem bd_disk_Disk_On (CK : CallP) (a0 : Value) (M : Mem) (w0 : Nat) (Q : OutP) : bodyP Try.prog EvA CK F_disk_Disk_On [a0] M w0 Q =
(fun (w : Nat) (κF : KontP) (κT : Value → Mem → Prop) =>
chkP (isPtrV a0) <|
cond (!isNilP a0)
(nilck a0 <|
fldA (pOf a0) 2 fun (v1 : Value) =>
ld fB M v1 fun (b2 : Bool) =>
κT (.bool b2) M)
(κT (.bool false) M)) M.length (retP Try.prog true M Try.f49 Q) (outT Try.prog Q M) := by kernel_rfl

/-! ### 50: (*purlin/disk.Disk).Sectors -/
theorem bd_disk_Disk_Sectors (CK : CallP) (a0 : Value) (M : Mem) (w0 : Nat) (Q : OutP) : bodyP Try.prog EvA CK F_disk_Disk_Sectors [a0] M w0 Q =
(fun (w : Nat) (κF : KontP) (κT : Value → Mem → Prop) =>
chkP (isPtrV a0) <|
cond (isNilP a0)
(κT (.int .i64 0) M)
(nilck a0 <|
fldA (pOf a0) 0 fun (v1 : Value) =>
ld fV M v1 fun (v2 : Value) =>
chkP (isSlV v2) <|
κT (.int .i64 (lenOf v2 : Int)) M)) M.length (retP Try.prog true M Try.f50 Q) (outT Try.prog Q M) := by kernel_rfl

/-! ### 51: (*purlin/disk.Disk).Flush -/
def st_disk_Disk_Flush_7 (a0 : Value) (a16 : Value) (a17 : Int) (a18 : Int) : List Value := mkR 42 [(0, a0), (16, a16), (17, (.int .i64 a17)), (18, (.int .i64 a18))]
def ex_disk_Disk_Flush_7 (a0 : Value) : List Value := mkR 42 [(0, a0)]
def tt_disk_Disk_Flush_7 (CK : CallP) (w : Nat) : RunP := fun r M κ => evP Try.prog EvA.E EvA.q (EvA.reg F_disk_Disk_Flush) CK w (Code.sub (codeOf Try.prog F_disk_Disk_Flush) [1, 1, 1, 0, 1, 0, 0]) r M (backP (headLive (EvA.reg F_disk_Disk_Flush) (Code.sub (codeOf Try.prog F_disk_Disk_Flush) [1, 1, 1, 0, 1, 0, 0])) (exitLive (EvA.reg F_disk_Disk_Flush) (Code.sub (codeOf Try.prog F_disk_Disk_Flush) [1, 1, 1, 0, 1, 0, 0])) κ)
def lp_disk_Disk_Flush_7 (CK : CallP) (w : Nat) (a0 : Value) (a16 : Value) (a17 : Int) (a18 : Int) (M : Mem) (κ : KontP) : Prop := loopP (tt_disk_Disk_Flush_7 CK w) (st_disk_Disk_Flush_7 a0 a16 a17 a18) M κ
def kk_disk_Disk_Flush_7 (CK : CallP) (w : Nat) (κF : KontP) : KontP := (blockK (EvA.reg F_disk_Disk_Flush) 0 (seqK Try.prog EvA.E EvA.q (EvA.reg F_disk_Disk_Flush) CK w (Code.sub (codeOf Try.prog F_disk_Disk_Flush) [1, 1, 1, 1]) κF))
theorem bd_disk_Disk_Flush (CK : CallP) (a0 : Value) (M : Mem) (w0 : Nat) (Q : OutP) : bodyP Try.prog EvA CK F_disk_Disk_Flush [a0] M w0 Q =
(fun (w : Nat) (κF : KontP) (κR : Value → Mem → Prop) =>
c1 (fI .i64) CK F_disk_Disk_asked [a0, (.bool true)] M M.length fun (n2 : Int) (M1 : Mem) =>
cond (n2 != 0)
(κR (.int .i64 n2) M1)
(c1 fB CK F_disk_Disk_falls [a0] M1 w fun (b4 : Bool) (M3 : Mem) =>
cond b4
(κR (.int .i64 4) M3)
(nilck a0 <|
fldA (pOf a0) 1 fun (v5 : Value) =>
ld fV M3 v5 fun (v6 : Value) =>
chkP (isSlV v6) <|
lp_disk_Disk_Flush_7 CK w a0 v6 (lenOf v6 : Int) 0 M3 (kk_disk_Disk_Flush_7 CK w κF)))) w0 (retP Try.prog false M Try.f51 Q) (outP Q) := by kernel_rfl
theorem rd_disk_Disk_Flush_7 (CK : CallP) (w : Nat) (a0 : Value) (a16 : Value) (a17 : Int) (a18 : Int) (M : Mem) (κ : KontP) : tt_disk_Disk_Flush_7 CK w (st_disk_Disk_Flush_7 a0 a16 a17 a18) M (nextK (tt_disk_Disk_Flush_7 CK w) κ) =
(cond (decide (a18 < a17))
(ixS 2 a16 a18 fun (v7 : Value) =>
ldA [(Value.int .i64 0), (Value.slice none 0 0)] 2 M v7 fun (xs8 : List Value) =>
allocC T_disk_write M [(Value.int .i64 0), (Value.slice none 0 0)] fun (v10 : Value) (M9 : Mem) =>
stA 2 w M9 v10 xs8 fun (M11 : Mem) =>
nilck a0 <|
fldA (pOf a0) 0 fun (v12 : Value) =>
fldA v10 0 fun (v13 : Value) =>
fldA v10 1 fun (v14 : Value) =>
ld fV M11 v12 fun (v15 : Value) =>
ldI .i64 M11 v13 fun (n16 : Int) =>
ld fV M11 v14 fun (v17 : Value) =>
ixS 1 v15 n16 fun (v18 : Value) =>
st1 w M11 v18 v17 fun (M19 : Mem) =>
lp_disk_Disk_Flush_7 CK w a0 a16 a17 (wr (a18 + 1)) M19 κ)
(κ (.exit 0) (ex_disk_Disk_Flush_7 a0) M)) := by kernel_rfl
theorem ke_disk_Disk_Flush_7_0 (CK : CallP) (w : Nat) (a0 : Value) (M0 M : Mem) (Q : OutP) : kk_disk_Disk_Flush_7 CK w (retP Try.prog false M0 Try.f51 Q) (.exit 0) (ex_disk_Disk_Flush_7 a0) M =
(fun (κF : KontP) (κR : Value → Mem → Prop) =>
nilck a0 <|
fldA (pOf a0) 1 fun (v20 : Value) =>
st1 w M v20 (.slice none 0 0) fun (M21 : Mem) =>
nilck a0 <|
fldA (pOf a0) 5 fun (v22 : Value) =>
ldI .i64 M21 v22 fun (n23 : Int) =>
nilck a0 <|
fldA (pOf a0) 5 fun (v24 : Value) =>
st1 w M21 v24 (.int .i64 (wr (n23 + 1))) fun (M25 : Mem) =>
κR (.int .i64 0) M25) (retP Try.prog false M0 Try.f51 Q) (outP Q) := by kernel_rfl

/-! ### 6: purlin/purlinlaw0.Low -/
theorem bd_purlinlaw0_Low (CK : CallP) (a0 : Int) (a1 : Int) (M : Mem) (w0 : Nat) (Q : OutP) : bodyP Try.prog EvA CK F_purlinlaw0_Low [(.int .i64 a0), (.int .i64 a1)] M w0 Q =
(fun (w : Nat) (κF : KontP) (κT : Value → Mem → Prop) =>
chkP (!((wrk .u64 a1) == 0)) <|
κT (.int .i64 (wr ((wrk .u64 a0).tmod (wrk .u64 a1)))) M) M.length (retP Try.prog true M Try.f6 Q) (outT Try.prog Q M) := by kernel_rfl

/-! ### 4: purlin/purlinlaw20.MkfsTells -/
def st_purlinlaw20_MkfsTells_7 (a1 : Int) (a2 : Value) (a3 : Value) (a7 : Value) (a8 : Int) : List Value := mkR 99 [(1, (.int .i64 a1)), (2, a2), (3, a3), (7, a7), (8, (.int .i64 a8))]
def ex_purlinlaw20_MkfsTells_7 (a1 : Int) (a2 : Value) (a3 : Value) : List Value := mkR 99 [(1, (.int .i64 a1)), (2, a2), (3, a3)]
def tt_purlinlaw20_MkfsTells_7 (CK : CallP) (w : Nat) : RunP := fun r M κ => evP Try.prog EvA.E EvA.q (EvA.reg F_purlinlaw20_MkfsTells) CK w (Code.sub (codeOf Try.prog F_purlinlaw20_MkfsTells) [1, 1, 1, 1, 0, 1, 0, 0]) r M (backP (headLive (EvA.reg F_purlinlaw20_MkfsTells) (Code.sub (codeOf Try.prog F_purlinlaw20_MkfsTells) [1, 1, 1, 1, 0, 1, 0, 0])) (exitLive (EvA.reg F_purlinlaw20_MkfsTells) (Code.sub (codeOf Try.prog F_purlinlaw20_MkfsTells) [1, 1, 1, 1, 0, 1, 0, 0])) κ)
def lp_purlinlaw20_MkfsTells_7 (CK : CallP) (w : Nat) (a1 : Int) (a2 : Value) (a3 : Value) (a7 : Value) (a8 : Int) (M : Mem) (κ : KontP) : Prop := loopP (tt_purlinlaw20_MkfsTells_7 CK w) (st_purlinlaw20_MkfsTells_7 a1 a2 a3 a7 a8) M κ
def kk_purlinlaw20_MkfsTells_7 (CK : CallP) (w : Nat) (κF : KontP) : KontP := (blockK (EvA.reg F_purlinlaw20_MkfsTells) 0 (seqK Try.prog EvA.E EvA.q (EvA.reg F_purlinlaw20_MkfsTells) CK w (Code.sub (codeOf Try.prog F_purlinlaw20_MkfsTells) [1, 1, 1, 1, 1]) κF))
def st_purlinlaw20_MkfsTells_14 (a1 : Int) (a2 : Value) (a3 : Value) (a9 : Value) (a10 : Int) : List Value := mkR 99 [(1, (.int .i64 a1)), (2, a2), (3, a3), (9, a9), (10, (.int .i64 a10))]
def ex_purlinlaw20_MkfsTells_14 (a1 : Int) (a3 : Value) (a9 : Value) : List Value := mkR 99 [(1, (.int .i64 a1)), (3, a3), (9, a9)]
def tt_purlinlaw20_MkfsTells_14 (CK : CallP) (w : Nat) : RunP := fun r M κ => evP Try.prog EvA.E EvA.q (EvA.reg F_purlinlaw20_MkfsTells) CK w (Code.sub (codeOf Try.prog F_purlinlaw20_MkfsTells) [1, 1, 1, 1, 1, 1, 1, 0, 1, 0, 0]) r M (backP (headLive (EvA.reg F_purlinlaw20_MkfsTells) (Code.sub (codeOf Try.prog F_purlinlaw20_MkfsTells) [1, 1, 1, 1, 1, 1, 1, 0, 1, 0, 0])) (exitLive (EvA.reg F_purlinlaw20_MkfsTells) (Code.sub (codeOf Try.prog F_purlinlaw20_MkfsTells) [1, 1, 1, 1, 1, 1, 1, 0, 1, 0, 0])) κ)
def lp_purlinlaw20_MkfsTells_14 (CK : CallP) (w : Nat) (a1 : Int) (a2 : Value) (a3 : Value) (a9 : Value) (a10 : Int) (M : Mem) (κ : KontP) : Prop := loopP (tt_purlinlaw20_MkfsTells_14 CK w) (st_purlinlaw20_MkfsTells_14 a1 a2 a3 a9 a10) M κ
def kk_purlinlaw20_MkfsTells_14 (CK : CallP) (w : Nat) (κF : KontP) : KontP := (blockK (EvA.reg F_purlinlaw20_MkfsTells) 2 (seqK Try.prog EvA.E EvA.q (EvA.reg F_purlinlaw20_MkfsTells) CK w (Code.sub (codeOf Try.prog F_purlinlaw20_MkfsTells) [1, 1, 1, 1, 1, 1, 1, 1]) κF))
theorem bd_purlinlaw20_MkfsTells (CK : CallP) (a0 : List Value) (a1 : Int) (a2 : Value) (M : Mem) (w0 : Nat) (Q : OutP) : bodyP Try.prog EvA CK F_purlinlaw20_MkfsTells [(.agg a0.toArray), (.int .i64 a1), a2] M w0 Q =
(fun (w : Nat) (κF : KontP) (κT : Value → Mem → Prop) =>
boxC T_api_Geometry M a0 fun (v2 : Value) (M1 : Mem) =>
cond (decide (400 < a1))
(c1 fB CK F_purlinlaw20_awake [] M1 M1.length fun (b4 : Bool) (M3 : Mem) =>
κT (.bool b4) M3)
(chkP (isSlV a2) <|
cond (decide (20 < (lenOf a2 : Int)))
(c1 fB CK F_purlinlaw20_awake [] M1 M1.length fun (b6 : Bool) (M5 : Mem) =>
κT (.bool b6) M5)
(ldA [(Value.int .i64 0), (Value.int .i64 0), (Value.int .i64 0)] 3 M1 v2 fun (xs7 : List Value) =>
c1 fV CK F_mkfs_Image [(.agg xs7.toArray)] M1 M1.length fun (v9 : Value) (M8 : Mem) =>
ldA [(Value.int .i64 0), (Value.int .i64 0), (Value.int .i64 0)] 3 M8 v2 fun (xs10 : List Value) =>
c1 fV CK F_purlinref20_Image [(.agg xs10.toArray)] M8 M8.length fun (v12 : Value) (M11 : Mem) =>
c1 fB CK F_purlinlaw0_SameParts [v9, v12] M11 M11.length fun (b14 : Bool) (M13 : Mem) =>
cond (!b14)
(κT (.bool false) M13)
(lp_purlinlaw20_MkfsTells_7 CK w a1 a2 v2 v9 0 M13 (kk_purlinlaw20_MkfsTells_7 CK w κF))))) M.length (retP Try.prog true M Try.f4 Q) (outT Try.prog Q M) := by kernel_rfl
theorem rd_purlinlaw20_MkfsTells_7 (CK : CallP) (w : Nat) (a1 : Int) (a2 : Value) (a3 : Value) (a7 : Value) (a8 : Int) (M : Mem) (κ : KontP) : tt_purlinlaw20_MkfsTells_7 CK w (st_purlinlaw20_MkfsTells_7 a1 a2 a3 a7 a8) M (nextK (tt_purlinlaw20_MkfsTells_7 CK w) κ) =
(chkP (isSlV a7) <|
cond (decide (a8 < (lenOf a7 : Int)))
(ixS 1 a7 a8 fun (v15 : Value) =>
ld fV M v15 fun (v16 : Value) =>
c0 CK F_purlinlaw0_OverBytes [v16] M w fun (M17 : Mem) =>
lp_purlinlaw20_MkfsTells_7 CK w a1 a2 a3 a7 (wr (a8 + 1)) M17 κ)
(κ (.exit 0) (ex_purlinlaw20_MkfsTells_7 a1 a2 a3) M)) := by kernel_rfl
theorem ke_purlinlaw20_MkfsTells_7_0 (CK : CallP) (w : Nat) (a1 : Int) (a2 : Value) (a3 : Value) (M0 M : Mem) (Q : OutP) : kk_purlinlaw20_MkfsTells_7 CK w (retP Try.prog true M0 Try.f4 Q) (.exit 0) (ex_purlinlaw20_MkfsTells_7 a1 a2 a3) M =
(fun (κF : KontP) (κT : Value → Mem → Prop) =>
c1 fV CK F_disk_New [(.int .i64 a1)] M M.length fun (v19 : Value) (M18 : Mem) =>
chkP (isPtrV v19) <|
cond (isNilP v19)
(c1 fB CK F_purlinlaw20_awake [] M18 M18.length fun (b21 : Bool) (M20 : Mem) =>
κT (.bool b21) M20)
(lp_purlinlaw20_MkfsTells_14 CK w a1 a2 a3 v19 0 M18 (kk_purlinlaw20_MkfsTells_14 CK w κF))) (retP Try.prog true M0 Try.f4 Q) (outT Try.prog Q M0) := by kernel_rfl
theorem rd_purlinlaw20_MkfsTells_14 (CK : CallP) (w : Nat) (a1 : Int) (a2 : Value) (a3 : Value) (a9 : Value) (a10 : Int) (M : Mem) (κ : KontP) : tt_purlinlaw20_MkfsTells_14 CK w (st_purlinlaw20_MkfsTells_14 a1 a2 a3 a9 a10) M (nextK (tt_purlinlaw20_MkfsTells_14 CK w) κ) =
(chkP (isSlV a2) <|
cond (decide (a10 < (lenOf a2 : Int)))
(ixS 1 a2 a10 fun (v22 : Value) =>
ixS 1 a2 a10 fun (v23 : Value) =>
ldI .i64 M v22 fun (n24 : Int) =>
ldI .i64 M v23 fun (n25 : Int) =>
c1 (fI .i64) (dP CK) F_purlinlaw0_Low [(.int .i64 n24), (.int .i64 a1)] M M.length fun (n27 : Int) (M26 : Mem) =>
c1 fV (dP CK) F_purlinlaw0_Fill [(.int .i64 n25), (.int .i64 128)] M26 M26.length fun (v29 : Value) (M28 : Mem) =>
c1 (fI .i64) (dP CK) F_disk_Disk_Write [a9, (.int .i64 n27), v29] M28 w fun (n31 : Int) (M30 : Mem) =>
lp_purlinlaw20_MkfsTells_14 CK w a1 a2 a3 a9 (wr (a10 + 1)) M30 κ)
(κ (.exit 2) (ex_purlinlaw20_MkfsTells_14 a1 a3 a9) M)) := by kernel_rfl
theorem ke_purlinlaw20_MkfsTells_14_2 (CK : CallP) (w : Nat) (a1 : Int) (a3 : Value) (a9 : Value) (M0 M : Mem) (Q : OutP) : kk_purlinlaw20_MkfsTells_14 CK w (retP Try.prog true M0 Try.f4 Q) (.exit 2) (ex_purlinlaw20_MkfsTells_14 a1 a3 a9) M =
(fun (κF : KontP) (κT : Value → Mem → Prop) =>
ldA [(Value.int .i64 0), (Value.int .i64 0), (Value.int .i64 0)] 3 M a3 fun (xs32 : List Value) =>
c1 (fI .i64) CK F_mkfs_Format [a9, (.agg xs32.toArray)] M w fun (n34 : Int) (M33 : Mem) =>
ldA [(Value.int .i64 0), (Value.int .i64 0), (Value.int .i64 0)] 3 M33 a3 fun (xs35 : List Value) =>
c1 fB CK F_geom_May [(.agg xs35.toArray)] M33 M33.length fun (b37 : Bool) (M36 : Mem) =>
cond (!b37)
(cond (n34 == 2)
(c1 fB CK F_purlinlaw20_awake [] M36 M36.length fun (b39 : Bool) (M38 : Mem) =>
κT (.bool b39) M38)
(κT (.bool false) M36))
(ldA [(Value.int .i64 0), (Value.int .i64 0), (Value.int .i64 0)] 3 M36 a3 fun (xs40 : List Value) =>
c1 (fI .i64) CK F_geom_Sectors [(.agg xs40.toArray)] M36 M36.length fun (n42 : Int) (M41 : Mem) =>
cond (n42 != a1)
(cond (n34 == 2)
(c1 fB CK F_purlinlaw20_awake [] M41 M41.length fun (b44 : Bool) (M43 : Mem) =>
κT (.bool b44) M43)
(κT (.bool false) M41))
(c0 CK F_disk_Disk_Crash [a9, (.slice none 0 0)] M41 w fun (M45 : Mem) =>
cond (n34 == 0)
(ldA [(Value.int .i64 0), (Value.int .i64 0), (Value.int .i64 0)] 3 M45 a3 fun (xs46 : List Value) =>
c1 fV (dP CK) F_disk_Disk_Image [a9] M45 M45.length fun (v48 : Value) (M47 : Mem) =>
c1 fV (dP CK) F_purlinref20_Image [(.agg xs46.toArray)] M47 M47.length fun (v50 : Value) (M49 : Mem) =>
c1 fB (dP CK) F_purlinlaw0_SameParts [v48, v50] M49 M49.length fun (b52 : Bool) (M51 : Mem) =>
cond b52
(ldA [(Value.int .i64 0), (Value.int .i64 0), (Value.int .i64 0)] 3 M51 a3 fun (xs53 : List Value) =>
c1 (fI .i64) (dP CK) F_mkfs_Format [a9, (.agg xs53.toArray)] M51 w fun (n55 : Int) (M54 : Mem) =>
cond (n55 == 4)
(c1 fB (dP CK) F_purlinlaw20_awake [] M54 M54.length fun (b57 : Bool) (M56 : Mem) =>
κT (.bool b57) M56)
(κT (.bool false) M54))
(κT (.bool false) M51))
(κT (.bool false) M45)))) (retP Try.prog true M0 Try.f4 Q) (outT Try.prog Q M0) := by kernel_rfl

end Go.Proofs.Yteeclgeoconekaa
