/- Functions without frames, each equal to the machine in passing style over its text (printed). Conditions: none. -/
import Derived.Test.YtcgoamfjpnkiiaaGreatAbLv
import Derived.Test.YtcgoamfjpnkiiaaGreatAbZg
set_option linter.all false
namespace Go.Ab.Tryz
noncomputable section
open Tr
def F213 (F : FK) (a0 : Value) (a1 : Value) (a2 : Value) (h0 : H) : Rz :=
  bV (aBin Ty .sub 3 a2 (.int .i64 1)) fun t1 =>
  lpK (Value → Value → Value → H → Rz) (fun _ _ _ _ => none) (fun j1 => fun t2 t3 t4 h1 =>
  bV (aBin Ty .geq 3 t4 (.int .i64 0)) fun t5 =>
  cdK t5 (lwK h1 (bV (aNilCheck t2) fun t6 =>
  bV (fa 0 t6) fun t7 =>
  psK h1 [t7] (bV (ld ty22 h1 t7) fun t8 =>
  bV (aBin Ty .mul 3 (.int .i64 8) t4) fun t9 =>
  bV (aBin Ty .shr 54 t3 t9) fun t10 =>
  bV (aConv Ty 5 t10) fun t11 =>
  bVH (aBuildSlice Ty h1 22 1 [(0, t11)]) fun t12 h2 =>
  psK h2 [t8, t12] (bVH (aAppend Ty h2 22 22 t8 t12) fun t13 h3 =>
  bV (aNilCheck t2) fun t14 =>
  bV (fa 0 t14) fun t15 =>
  psK h3 [t15] (bH (st ty22 h3 t15 t13) fun h4 =>
  bV (aBin Ty .sub 3 t4 (.int .i64 1)) fun t16 =>
  j1 t2 t3 t16 h4)))))
  (some (.tuple #[], h1))) NN a0 a1 t1 h0
theorem e213 (F : FK) (a0 : Value) (a1 : Value) (a2 : Value) (h : H) : runK Ty F (lvT 213) (jvT 213) NN FU Go.Proofs.Tryz.f213 [a0, a1, a2] h = F213 F a0 a1 a2 h := by kernel_rfl
def F214 (F : FK) (a0 : Value) (h0 : H) : Rz :=
  bxK 75 a0 h0 fun t1 h1 =>
  lwK h1 (bV (fa 3 t1) fun t2 =>
  bV (aSlice Ty 73 t2 none (some (.int .i64 4)) (some (.int .i64 4))) fun t3 =>
  bV (fa 7 t1) fun t4 =>
  psK h1 [t4] (bV (ld ty3 h1 t4) fun t5 =>
  bVH (aBuildSlice Ty h1 87 1 [(0, t5)]) fun t6 h2 =>
  psK h2 [t3, t6] (bVH (aAppend Ty h2 87 87 t3 t6) fun t7 h3 =>
  some (t7, h3))))
theorem e214 (F : FK) (a0 : Value) (h : H) : runK Ty F (lvT 214) (jvT 214) NN FU Go.Proofs.Tryz.f214 [a0] h = F214 F a0 h := by kernel_rfl
def F215 (F : FK) (a0 : Value) (a1 : Value) (a2 : Value) (a3 : Value) (h0 : H) : Rz :=
  bVH (F 252 [a3] h0) fun t1 h1 =>
  bV (aUn .not t1) fun t2 =>
  cdK t2 (some (.tuple #[(.slice none 0 0), (.bool false)], h1))
  (bVH (F 253 [a0, a1, a2, a3] h1) fun t3 h2 =>
  bVH (aBuildSlice Ty h2 100 1 [(0, t3)]) fun t4 h3 =>
  bV (aLen Ty h3 218 a3) fun t5 =>
  lpK (Value → Value → Value → Value → Value → Value → H → Rz) (fun _ _ _ _ _ _ _ => none) (fun j1 => fun t6 t7 t8 t9 t10 t11 h4 =>
  bV (aBin Ty .lss 3 t11 t10) fun t12 =>
  cdK t12 (bV (aIndexAddr Ty 218 t9 t11) fun t13 =>
  bV (ld ty278 h4 t13) fun t14 =>
  alK 278 ty278 h4 fun t15 h5 =>
  bH (st ty278 h5 t15 t14) fun h6 =>
  bV (ld ty278 h6 t15) fun t16 =>
  bVH (F 254 [t6, t7, t16] h6) fun t17 h7 =>
  bVH (aBuildSlice Ty h7 100 1 [(0, t17)]) fun t18 h8 =>
  bVH (aAppend Ty h8 100 100 t8 t18) fun t19 h9 =>
  bV (aBin Ty .add 3 t11 (.int .i64 1)) fun t20 =>
  j1 t6 t7 t19 t9 t10 t20 h9)
  (some (.tuple #[t8, (.bool true)], h4))) NN a1 a2 t4 a3 t5 (.int .i64 0) h3)
theorem e215 (F : FK) (a0 : Value) (a1 : Value) (a2 : Value) (a3 : Value) (h : H) : runK Ty F (lvT 215) (jvT 215) NN FU Go.Proofs.Tryz.f215 [a0, a1, a2, a3] h = F215 F a0 a1 a2 a3 h := by kernel_rfl
def F216 (F : FK) (a0 : Value) (a1 : Value) (h0 : H) : Rz :=
  bVH (F 255 [a0, a1] h0) fun t1 h1 =>
  bV (aBin Ty .geq 3 t1 (.int .i64 0)) fun t2 =>
  some (t2, h1)
theorem e216 (F : FK) (a0 : Value) (a1 : Value) (h : H) : runK Ty F (lvT 216) (jvT 216) NN FU Go.Proofs.Tryz.f216 [a0, a1] h = F216 F a0 a1 h := by kernel_rfl
def F217 (F : FK) (a0 : Value) (a1 : Value) (h0 : H) : Rz :=
  bxK 278 a0 h0 fun t1 h1 =>
  lwK h1 (bV (fa 0 t1) fun t2 =>
  psK h1 [t2] (bV (ld ty3 h1 t2) fun t3 =>
  psK h1 [a1] (bV (ld ty139 h1 a1) fun t4 =>
  bV (aNilCheck t4) fun t5 =>
  bV (fa 2 t5) fun t6 =>
  bV (fa 2 t6) fun t7 =>
  psK h1 [t7] (bV (ld ty3 h1 t7) fun t8 =>
  bV (aBin Ty .geq 3 t3 t8) fun t9 =>
  some (t9, h1)))))
theorem e217 (F : FK) (a0 : Value) (a1 : Value) (h : H) : runK Ty F (lvT 217) (jvT 217) NN FU Go.Proofs.Tryz.f217 [a0, a1] h = F217 F a0 a1 h := by kernel_rfl
def F218 (F : FK) (a0 : Value) (h0 : H) : Rz :=
  bV (aBin Ty .eql 139 a0 (.pointer none)) fun t1 =>
  cdK t1 (some ((.int .i64 0), h0))
  (lwK h0 (bV (aNilCheck a0) fun t2 =>
  bV (fa 2 t2) fun t3 =>
  bV (fa 3 t3) fun t4 =>
  psK h0 [t4] (bV (ld ty3 h0 t4) fun t5 =>
  bV (aNilCheck a0) fun t6 =>
  bV (fa 10 t6) fun t7 =>
  psK h0 [t7] (bV (ld ty3 h0 t7) fun t8 =>
  bV (aBin Ty .sub 3 t5 t8) fun t9 =>
  some (t9, h0)))))
theorem e218 (F : FK) (a0 : Value) (h : H) : runK Ty F (lvT 218) (jvT 218) NN FU Go.Proofs.Tryz.f218 [a0] h = F218 F a0 h := by kernel_rfl
def F219 (F : FK) (a0 : Value) (h0 : H) : Rz :=
  bxK 205 a0 h0 fun t1 h1 =>
  some ((.func (.func 256) #[] #[t1]), h1)
theorem e219 (F : FK) (a0 : Value) (h : H) : runK Ty F (lvT 219) (jvT 219) NN FU Go.Proofs.Tryz.f219 [a0] h = F219 F a0 h := by kernel_rfl
def F222 (F : FK) (a0 : Value) (a1 : Value) (h0 : H) : Rz :=
  bVH (F 257 [a0, a1, (.bool true)] h0) fun t1 h1 =>
  some (t1, h1)
theorem e222 (F : FK) (a0 : Value) (a1 : Value) (h : H) : runK Ty F (lvT 222) (jvT 222) NN FU Go.Proofs.Tryz.f222 [a0, a1] h = F222 F a0 a1 h := by kernel_rfl
def F223 (F : FK) (a0 : Value) (h0 : H) : Rz :=
  bV (aMax2 a0 (.int .i64 0)) fun t1 =>
  bV (aMin2 t1 (.int .i64 200)) fun t2 =>
  bVH (aMakeSlice Ty h0 223 t2 t2) fun t3 h1 =>
  bV (aBuild Ty 310 [(0, t3)]) fun t4 =>
  bxK 310 t4 h1 fun t5 h2 =>
  some (t5, h2)
theorem e223 (F : FK) (a0 : Value) (h : H) : runK Ty F (lvT 223) (jvT 223) NN FU Go.Proofs.Tryz.f223 [a0] h = F223 F a0 h := by kernel_rfl
def F224 (F : FK) (a0 : Value) (a1 : Value) (h0 : H) : Rz :=
  bVH (F 226 [a0, a1] h0) fun t1 h1 =>
  bV (aUn .not t1) fun t2 =>
  guardV t2 false (fun k => k a0 h1) h1 fun t3 h2 =>
  guardV t2 false (fun k => bV (aNilCheck t3) fun t5 =>
  k t5 h2) h2 fun t4 h3 =>
  guardV t2 false (fun k => bV (fa 0 t4) fun t7 =>
  k t7 h3) h3 fun t6 h4 =>
  guardV t2 false (fun k => bV (ld ty223 h4 t6) fun t9 =>
  k t9 h4) h4 fun t8 h5 =>
  guardV t2 false (fun k => k a1 h5) h5 fun t10 h6 =>
  guardV t2 false (fun k => bV (aIndexAddr Ty 223 t8 t10) fun t12 =>
  k t12 h6) h6 fun t11 h7 =>
  guardV t2 false (fun k => bV (ld ty4 h7 t11) fun t14 =>
  k t14 h7) h7 fun t13 h8 =>
  pickK t2 (.bool true) t13 fun t15 =>
  cdK t15 (some ((.bool false), h8))
  (bV (aNilCheck a0) fun t16 =>
  bV (fa 0 t16) fun t17 =>
  bV (ld ty223 h8 t17) fun t18 =>
  bV (aIndexAddr Ty 223 t18 a1) fun t19 =>
  bH (st ty4 h8 t19 (.bool true)) fun h9 =>
  some ((.bool true), h9))
theorem e224 (F : FK) (a0 : Value) (a1 : Value) (h : H) : runK Ty F (lvT 224) (jvT 224) NN FU Go.Proofs.Tryz.f224 [a0, a1] h = F224 F a0 a1 h := by kernel_rfl
def F225 (F : FK) (a0 : Value) (a1 : Value) (a2 : Value) (h0 : H) : Rz :=
  bxK 40 a1 h0 fun t1 h1 =>
  bV (ld ty40 h1 t1) fun t2 =>
  bVH (F 72 [t2] h1) fun t3 h2 =>
  bV (aExtract t3 0) fun t4 =>
  bV (aExtract t3 1) fun t5 =>
  alK 75 ty75 h2 fun t6 h3 =>
  bH (st ty75 h3 t6 t4) fun h4 =>
  bV (aUn .not t5) fun t7 =>
  cdK t7 (some (.tuple #[], h4))
  (bV (fa 3 t6) fun t8 =>
  bV (ld ty73 h4 t8) fun t9 =>
  lpK (Value → Value → Value → Value → Value → H → Rz) (fun _ _ _ _ _ _ => none) (fun j1 => fun t10 t11 t12 t13 t14 h5 =>
  bV (aBin Ty .lss 3 t14 (.int .i64 4)) fun t15 =>
  cdK t15 (bV (aIndex Ty 73 t13 t14) fun t16 =>
  bVH (F 224 [t11, t16] h5) fun t17 h6 =>
  bV (aBin Ty .add 3 t14 (.int .i64 1)) fun t18 =>
  j1 t10 t11 t12 t13 t18 h6)
  (bV (fa 7 t12) fun t19 =>
  bV (ld ty3 h5 t19) fun t20 =>
  bVH (F 224 [t11, t20] h5) fun t21 h7 =>
  bV (fa 7 t12) fun t22 =>
  bV (ld ty3 h7 t22) fun t23 =>
  bV (aBin Ty .eql 3 t23 (.int .i64 (-1))) fun t24 =>
  cdK t24 (some (.tuple #[], h7))
  (bV (fa 7 t12) fun t25 =>
  bV (ld ty3 h7 t25) fun t26 =>
  bVH (F 163 [t10, t26] h7) fun t27 h8 =>
  bV (aExtract t27 0) fun t28 =>
  bV (aExtract t27 1) fun t29 =>
  alK 40 ty40 h8 fun t30 h9 =>
  bH (st ty40 h9 t30 t28) fun h10 =>
  bV (ld ty40 h10 t30) fun t31 =>
  bVH (F 231 [t31] h10) fun t32 h11 =>
  bV (aExtract t32 0) fun t33 =>
  bV (aExtract t32 1) fun t34 =>
  bV (aLen Ty h11 87 t33) fun t35 =>
  lpK (Value → Value → Value → Value → H → Rz) (fun _ _ _ _ _ => none) (fun j2 => fun t36 t37 t38 t39 h12 =>
  bV (aBin Ty .lss 3 t39 t38) fun t40 =>
  cdK t40 (bV (aIndexAddr Ty 87 t37 t39) fun t41 =>
  bV (ld ty3 h12 t41) fun t42 =>
  bVH (F 224 [t36, t42] h12) fun t43 h13 =>
  bV (aBin Ty .add 3 t39 (.int .i64 1)) fun t44 =>
  j2 t36 t37 t38 t44 h13)
  (some (.tuple #[], h12))) NN t11 t33 t35 (.int .i64 0) h11))) NN a0 a2 t6 t9 (.int .i64 0) h4)
theorem e225 (F : FK) (a0 : Value) (a1 : Value) (a2 : Value) (h : H) : runK Ty F (lvT 225) (jvT 225) NN FU Go.Proofs.Tryz.f225 [a0, a1, a2] h = F225 F a0 a1 a2 h := by kernel_rfl
def F226 (F : FK) (a0 : Value) (a1 : Value) (h0 : H) : Rz :=
  bV (aBin Ty .neq 233 a0 (.pointer none)) fun t1 =>
  guardV t1 true (fun k => k a1 h0) h0 fun t2 h1 =>
  guardV t1 true (fun k => bV (aBin Ty .geq 3 t2 (.int .i64 0)) fun t4 =>
  k t4 h1) h1 fun t3 h2 =>
  pickK t1 t3 (.bool false) fun t5 =>
  guardV t5 true (fun k => k a1 h2) h2 fun t6 h3 =>
  guardV t5 true (fun k => k a0 h3) h3 fun t7 h4 =>
  guardV t5 true (fun k => bV (aNilCheck t7) fun t9 =>
  k t9 h4) h4 fun t8 h5 =>
  guardV t5 true (fun k => bV (fa 0 t8) fun t11 =>
  k t11 h5) h5 fun t10 h6 =>
  guardV t5 true (fun k => bV (ld ty223 h6 t10) fun t13 =>
  k t13 h6) h6 fun t12 h7 =>
  guardV t5 true (fun k => bV (aLen Ty h7 223 t12) fun t15 =>
  k t15 h7) h7 fun t14 h8 =>
  guardV t5 true (fun k => bV (aBin Ty .lss 3 t6 t14) fun t17 =>
  k t17 h8) h8 fun t16 h9 =>
  pickK t5 t16 (.bool false) fun t18 =>
  some (t18, h9)
theorem e226 (F : FK) (a0 : Value) (a1 : Value) (h : H) : runK Ty F (lvT 226) (jvT 226) NN FU Go.Proofs.Tryz.f226 [a0, a1] h = F226 F a0 a1 h := by kernel_rfl
def F227 (F : FK) (a0 : Value) (a1 : Value) (h0 : H) : Rz :=
  bVH (F 226 [a0, a1] h0) fun t1 h1 =>
  guardV t1 true (fun k => k a0 h1) h1 fun t2 h2 =>
  guardV t1 true (fun k => bV (aNilCheck t2) fun t4 =>
  k t4 h2) h2 fun t3 h3 =>
  guardV t1 true (fun k => bV (fa 0 t3) fun t6 =>
  k t6 h3) h3 fun t5 h4 =>
  guardV t1 true (fun k => bV (ld ty223 h4 t5) fun t8 =>
  k t8 h4) h4 fun t7 h5 =>
  guardV t1 true (fun k => k a1 h5) h5 fun t9 h6 =>
  guardV t1 true (fun k => bV (aIndexAddr Ty 223 t7 t9) fun t11 =>
  k t11 h6) h6 fun t10 h7 =>
  guardV t1 true (fun k => bV (ld ty4 h7 t10) fun t13 =>
  k t13 h7) h7 fun t12 h8 =>
  pickK t1 t12 (.bool false) fun t14 =>
  some (t14, h8)
theorem e227 (F : FK) (a0 : Value) (a1 : Value) (h : H) : runK Ty F (lvT 227) (jvT 227) NN FU Go.Proofs.Tryz.f227 [a0, a1] h = F227 F a0 a1 h := by kernel_rfl
def F228 (F : FK) (a0 : Value) (a1 : Value) (h0 : H) : Rz :=
  bV (aLen Ty h0 168 a0) fun t1 =>
  lpK (Value → Value → Value → Value → H → Rz) (fun _ _ _ _ _ => none) (fun j1 => fun t2 t3 t4 t5 h1 =>
  bV (aBin Ty .lss 3 t5 t4) fun t6 =>
  cdK t6 (bV (aIndexAddr Ty 168 t2 t5) fun t7 =>
  bV (ld ty159 h1 t7) fun t8 =>
  dyK F t3 [t8] h1 fun t9 h2 =>
  cdK t9 (some (t5, h2))
  (bV (aBin Ty .add 3 t5 (.int .i64 1)) fun t10 =>
  j1 t2 t3 t4 t10 h2))
  (some ((.int .i64 (-1)), h1))) NN a0 a1 t1 (.int .i64 0) h0
theorem e228 (F : FK) (a0 : Value) (a1 : Value) (h : H) : runK Ty F (lvT 228) (jvT 228) NN FU Go.Proofs.Tryz.f228 [a0, a1] h = F228 F a0 a1 h := by kernel_rfl
def F229 (F : FK) (a0 : Value) (a1 : Value) (a2 : Value) (h0 : H) : Rz :=
  lpK (Value → Value → Value → Value → Value → Value → H → Rz) (fun _ _ _ _ _ _ _ => none) (fun j1 => fun t1 t2 t3 t4 t5 t6 h1 =>
  bV (aBin Ty .leq 3 t6 t2) fun t7 =>
  cdK t7 (bVH (F 258 [t1, t5, t6, t3] h1) fun t8 h2 =>
  bV (aBin Ty .add 3 t6 t4) fun t9 =>
  j1 t1 t2 t3 t4 t6 t9 h2)
  (bVH (F 258 [t1, t5, t2, t3] h1) fun t10 h3 =>
  lpK (Value → Value → Value → Value → H → Rz) (fun _ _ _ _ _ => none) (fun j2 => fun t11 t12 t13 t14 h4 =>
  bV (aBin Ty .lss 3 t14 t12) fun t15 =>
  cdK t15 (bV (aBin Ty .mul 3 (.int .i64 2) t14) fun t16 =>
  lpK (Value → Value → Value → Value → Value → Value → H → Rz) (fun _ _ _ _ _ _ _ => none) (fun j3 => fun t17 t18 t19 t20 t21 t22 h5 =>
  bV (aBin Ty .leq 3 t22 t18) fun t23 =>
  cdK t23 (bV (aBin Ty .add 3 t21 t20) fun t24 =>
  bVH (F 259 [t17, t21, t24, t22, t19] h5) fun t25 h6 =>
  bV (aBin Ty .mul 3 (.int .i64 2) t20) fun t26 =>
  bV (aBin Ty .add 3 t22 t26) fun t27 =>
  j3 t17 t18 t19 t20 t22 t27 h6)
  (jn (Value → Value → Value → Value → H → Rz) (fun t28 t29 t30 t31 h7 =>
  bV (aBin Ty .mul 3 t31 (.int .i64 2)) fun t32 =>
  j2 t28 t29 t30 t32 h7) fun j4 =>
  bV (aBin Ty .add 3 t21 t20) fun t33 =>
  bV (aBin Ty .lss 3 t33 t18) fun t34 =>
  cdK t34 (bVH (F 259 [t17, t21, t33, t18, t19] h5) fun t35 h8 =>
  j4 t17 t18 t19 t20 h8)
  (j4 t17 t18 t19 t20 h5))) NN t11 t12 t13 t14 (.int .i64 0) t16 h4)
  (some (.tuple #[], h4))) NN t1 t2 t3 t4 h3)) NN a0 a1 a2 (.int .i64 20) (.int .i64 0) (.int .i64 20) h0
theorem e229 (F : FK) (a0 : Value) (a1 : Value) (a2 : Value) (h : H) : runK Ty F (lvT 229) (jvT 229) NN FU Go.Proofs.Tryz.f229 [a0, a1, a2] h = F229 F a0 a1 a2 h := by kernel_rfl
def F230 (F : FK) (a0 : Value) (h0 : H) : Rz :=
  bV (aBin Ty .neq 9 a0 a0) fun t1 =>
  some (t1, h0)
theorem e230 (F : FK) (a0 : Value) (h : H) : runK Ty F (lvT 230) (jvT 230) NN FU Go.Proofs.Tryz.f230 [a0] h = F230 F a0 h := by kernel_rfl
def F231 (F : FK) (a0 : Value) (h0 : H) : Rz :=
  bxK 40 a0 h0 fun t1 h1 =>
  lpK (Value → Value → Value → H → Rz) (fun _ _ _ _ => none) (fun j1 => fun t2 t3 t4 h2 =>
  bV (aBin Ty .lss 3 t4 (.int .i64 16)) fun t5 =>
  cdK t5 (lwK h2 (bV (aBin Ty .mul 3 (.int .i64 2) t4) fun t6 =>
  bV (fa 1 t2) fun t7 =>
  bV (aIndexAddr Ty 38 t7 t6) fun t8 =>
  psK h2 [t8] (bV (ld ty5 h2 t8) fun t9 =>
  bV (aConv Ty 3 t9) fun t10 =>
  bV (aBin Ty .shl 3 t10 (.int .u64 8)) fun t11 =>
  bV (aBin Ty .mul 3 (.int .i64 2) t4) fun t12 =>
  bV (aBin Ty .add 3 t12 (.int .i64 1)) fun t13 =>
  bV (fa 1 t2) fun t14 =>
  bV (aIndexAddr Ty 38 t14 t13) fun t15 =>
  psK h2 [t15] (bV (ld ty5 h2 t15) fun t16 =>
  bV (aConv Ty 3 t16) fun t17 =>
  bV (aBin Ty .add 3 t11 t17) fun t18 =>
  bV (aBin Ty .sub 3 t18 (.int .i64 1)) fun t19 =>
  bVH (aBuildSlice Ty h2 87 1 [(0, t19)]) fun t20 h3 =>
  psK h3 [t3, t20] (bVH (aAppend Ty h3 87 87 t3 t20) fun t21 h4 =>
  bV (aBin Ty .add 3 t4 (.int .i64 1)) fun t22 =>
  j1 t2 t21 t22 h4)))))
  (bVH (F 235 [t3] h2) fun t23 h5 =>
  bV (aExtract t23 0) fun t24 =>
  bV (aExtract t23 1) fun t25 =>
  alK 40 ty40 h5 fun t26 h6 =>
  bH (st ty40 h6 t26 t24) fun h7 =>
  bV (aUn .not t25) fun t27 =>
  guardV t27 false (fun k => bV (ld ty40 h7 t26) fun t29 =>
  k t29 h7) h7 fun t28 h8 =>
  guardV t27 false (fun k => bV (ld ty40 h8 t2) fun t31 =>
  k t31 h8) h8 fun t30 h9 =>
  guardV t27 false (fun k => bV (aBin Ty .neq 40 t28 t30) fun t33 =>
  k t33 h9) h9 fun t32 h10 =>
  pickK t27 (.bool true) t32 fun t34 =>
  cdK t34 (some (.tuple #[(.slice none 0 0), (.bool false)], h10))
  (some (.tuple #[t3, (.bool true)], h10)))) NN t1 (.slice none 0 0) (.int .i64 0) h1
theorem e231 (F : FK) (a0 : Value) (h : H) : runK Ty F (lvT 231) (jvT 231) NN FU Go.Proofs.Tryz.f231 [a0] h = F231 F a0 h := by kernel_rfl
def F232 (F : FK) (a0 : Value) (a1 : Value) (h0 : H) : Rz :=
  jn (Value → Value → H → Rz) (fun t1 t2 h1 =>
  bV (aLen Ty h1 87 t1) fun t3 =>
  bV (aConv Ty 135 t3) fun t4 =>
  bV (aConv Ty 135 t2) fun t5 =>
  bVH (F 260 [t4, t5] h1) fun t6 h2 =>
  bV (aExtract t6 0) fun t7 =>
  bV (aExtract t6 1) fun t8 =>
  jn (Value → Value → H → Rz) (fun t9 t10 h3 =>
  bV (aConv Ty 3 t10) fun t11 =>
  bVH (aMakeSlice Ty h3 87 t11 t11) fun t12 h4 =>
  bVH (cpK Ty h4 87 t12 t9) fun t13 h5 =>
  lpK (Value → Value → H → Rz) (fun _ _ _ => none) (fun j3 => fun t14 t15 h6 =>
  bV (aLen Ty h6 87 t14) fun t16 =>
  bV (aBin Ty .lss 3 t15 t16) fun t17 =>
  cdK t17 (lwK h6 (bV (aSlice Ty 87 t14 (some t15) none none) fun t18 =>
  bV (aSlice Ty 87 t14 none (some t15) none) fun t19 =>
  psK h6 [t18, t19] (bVH (cpK Ty h6 87 t18 t19) fun t20 h7 =>
  bV (aBin Ty .add 3 t15 t20) fun t21 =>
  j3 t14 t21 h7)))
  (some (t14, h6))) NN t12 t13 h5) fun j2 =>
  bV (aBin Ty .gtr 135 t7 (.int .u64 0)) fun t22 =>
  guardV t22 false (fun k => k t8 h2) h2 fun t23 h8 =>
  guardV t22 false (fun k => bV (aBin Ty .gtr 135 t23 (.int .u64 9223372036854775807)) fun t25 =>
  k t25 h8) h8 fun t24 h9 =>
  pickK t22 (.bool true) t24 fun t26 =>
  cdK t26 (none)
  (j2 t1 t8 h9)) fun j1 =>
  bV (aBin Ty .lss 3 a1 (.int .i64 0)) fun t27 =>
  cdK t27 (none)
  (j1 a0 a1 h0)
theorem e232 (F : FK) (a0 : Value) (a1 : Value) (h : H) : runK Ty F (lvT 232) (jvT 232) NN FU Go.Proofs.Tryz.f232 [a0, a1] h = F232 F a0 a1 h := by kernel_rfl
def F233 (F : FK) (a0 : Value) (h0 : H) : Rz :=
  alK 246 ty246 h0 fun t1 h1 =>
  bV (aReal a0) fun t2 =>
  bV (aConv Ty 3 t2) fun t3 =>
  bV (aImag a0) fun t4 =>
  bV (aConv Ty 3 t4) fun t5 =>
  bV (aBin Ty .quo 3 t3 (.int .i64 56)) fun t6 =>
  bV (aBin Ty .add 3 t6 (.int .i64 1)) fun t7 =>
  bV (aBin Ty .mul 3 t7 (.int .i64 56)) fun t8 =>
  bV (aMin2 t5 t8) fun t9 =>
  bV (aBin Ty .mul 3 t6 (.int .i64 56)) fun t10 =>
  bV (aBin Ty .sub 3 t3 t10) fun t11 =>
  bV (aBin Ty .mul 3 t6 (.int .i64 56)) fun t12 =>
  bV (aBin Ty .sub 3 t9 t12) fun t13 =>
  bV (aBuild Ty 246 [(0, t6), (1, t11), (2, t13)]) fun t14 =>
  bV (aConv Ty 203 t9) fun t15 =>
  bV (aConv Ty 203 t5) fun t16 =>
  bV (aComplex t15 t16) fun t17 =>
  bH (st ty246 h1 t1 t14) fun h2 =>
  bV (ld ty246 h2 t1) fun t18 =>
  some (.tuple #[t18, t17], h2)
theorem e233 (F : FK) (a0 : Value) (h : H) : runK Ty F (lvT 233) (jvT 233) NN FU Go.Proofs.Tryz.f233 [a0] h = F233 F a0 h := by kernel_rfl
def F234 (F : FK) (a0 : Value) (h0 : H) : Rz :=
  bV (aBin Ty .lss 3 a0 (.int .i64 0)) fun t1 =>
  guardV t1 false (fun k => k a0 h0) h0 fun t2 h1 =>
  guardV t1 false (fun k => bV (aBin Ty .geq 3 t2 (.int .i64 20)) fun t4 =>
  k t4 h1) h1 fun t3 h2 =>
  pickK t1 (.bool true) t3 fun t5 =>
  cdK t5 (some (.tuple #[(.int .i64 0), (.int .i64 0), (.bool false)], h2))
  (bV (aBin Ty .lss 3 a0 (.int .i64 4)) fun t6 =>
  cdK t6 (some (.tuple #[a0, (.int .i64 (-1)), (.bool true)], h2))
  (bV (aBin Ty .sub 3 a0 (.int .i64 4)) fun t7 =>
  some (.tuple #[(.int .i64 (-1)), t7, (.bool true)], h2)))
theorem e234 (F : FK) (a0 : Value) (h : H) : runK Ty F (lvT 234) (jvT 234) NN FU Go.Proofs.Tryz.f234 [a0] h = F234 F a0 h := by kernel_rfl
def F235 (F : FK) (a0 : Value) (h0 : H) : Rz :=
  alK 40 ty40 h0 fun t1 h1 =>
  jn ((Value → H → Rz) × Unit) (lpK ((Value → H → Rz) × Unit) (fun _ _ => none, ()) (fun j1 => (fun t2 h2 =>
  bV (aBuild Ty 40 []) fun t3 =>
  bH (st ty40 h2 t2 t3) fun h3 =>
  bV (ld ty40 h3 t2) fun t4 =>
  some (.tuple #[t4, (.bool false)], h3), ())) NN) fun j2 =>
  bV (aBuild Ty 40 [(0, (.int .i64 5))]) fun t5 =>
  alK 40 ty40 h1 fun t6 h4 =>
  bH (st ty40 h4 t6 t5) fun h5 =>
  mmK 207 h5 fun t7 h6 =>
  bV (aLen Ty h6 87 a0) fun t8 =>
  bV (aBin Ty .neq 3 t8 (.int .i64 16)) fun t9 =>
  cdK t9 (j2.1 t1 h6)
  (bV (aLen Ty h6 87 a0) fun t10 =>
  lpK (Value → Value → Value → Value → Value → Value → H → Rz) (fun _ _ _ _ _ _ _ => none) (fun j3 => fun t11 t12 t13 t14 t15 t16 h7 =>
  bV (aBin Ty .lss 3 t16 t15) fun t17 =>
  cdK t17 (bV (aIndexAddr Ty 87 t14 t16) fun t18 =>
  bV (ld ty3 h7 t18) fun t19 =>
  bV (aBin Ty .neq 3 t19 (.int .i64 (-1))) fun t20 =>
  guardV t20 true (fun k => k t19 h7) h7 fun t21 h8 =>
  guardV t20 true (fun k => bV (aBin Ty .lss 3 t21 (.int .i64 1)) fun t23 =>
  k t23 h8) h8 fun t22 h9 =>
  guardV t20 true (fun k => k t22 h9) h9 fun t24 h10 =>
  guardV t24 false (fun k => k t19 h10) h10 fun t25 h11 =>
  guardV t24 false (fun k => bV (aBin Ty .geq 3 t25 (.int .i64 200)) fun t27 =>
  k t27 h11) h11 fun t26 h12 =>
  guardV t20 true (fun k => pickK t24 (.bool true) t26 fun t29 =>
  k t29 h12) h12 fun t28 h13 =>
  guardV t20 true (fun k => k t28 h13) h13 fun t30 h14 =>
  guardV t30 false (fun k => k t13 h14) h14 fun t31 h15 =>
  guardV t30 false (fun k => k t19 h15) h15 fun t32 h16 =>
  guardV t30 false (fun k => bV (aLookup Ty h16 207 t31 t32 false) fun t34 =>
  k t34 h16) h16 fun t33 h17 =>
  guardV t20 true (fun k => pickK t30 (.bool true) t33 fun t36 =>
  k t36 h17) h17 fun t35 h18 =>
  pickK t20 t35 (.bool false) fun t37 =>
  cdK t37 (j2.1 t11 h18)
  (bH (aMapUpdate Ty h18 207 t13 t19 (.bool true)) fun h19 =>
  bV (aBin Ty .mul 3 (.int .i64 2) t16) fun t38 =>
  bV (aBin Ty .mul 3 (.int .i64 2) t16) fun t39 =>
  bV (aBin Ty .add 3 t39 (.int .i64 1)) fun t40 =>
  bV (aBin Ty .add 3 t19 (.int .i64 1)) fun t41 =>
  bV (aBin Ty .shr 3 t41 (.int .u64 8)) fun t42 =>
  bV (aConv Ty 5 t42) fun t43 =>
  bV (aBin Ty .add 3 t19 (.int .i64 1)) fun t44 =>
  bV (aConv Ty 5 t44) fun t45 =>
  bV (fa 1 t12) fun t46 =>
  bV (aIndexAddr Ty 38 t46 t38) fun t47 =>
  bH (st ty5 h19 t47 t43) fun h20 =>
  bV (fa 1 t12) fun t48 =>
  bV (aIndexAddr Ty 38 t48 t40) fun t49 =>
  bH (st ty5 h20 t49 t45) fun h21 =>
  bV (aBin Ty .add 3 t16 (.int .i64 1)) fun t50 =>
  j3 t11 t12 t13 t14 t15 t50 h21))
  (bV (ld ty40 h7 t12) fun t51 =>
  bH (st ty40 h7 t11 t51) fun h22 =>
  bV (ld ty40 h22 t11) fun t52 =>
  some (.tuple #[t52, (.bool true)], h22))) NN t1 t6 t7 a0 t10 (.int .i64 0) h6)
theorem e235 (F : FK) (a0 : Value) (h : H) : runK Ty F (lvT 235) (jvT 235) NN FU Go.Proofs.Tryz.f235 [a0] h = F235 F a0 h := by kernel_rfl
def F236 (F : FK) (a0 : Value) (a1 : Value) (h0 : H) : Rz :=
  bV (aLen Ty h0 87 a0) fun t1 =>
  lpK (Value → Value → Value → Value → H → Rz) (fun _ _ _ _ _ => none) (fun j1 => fun t2 t3 t4 t5 h1 =>
  bV (aBin Ty .lss 3 t5 t4) fun t6 =>
  cdK t6 (bV (aIndexAddr Ty 87 t2 t5) fun t7 =>
  bV (ld ty3 h1 t7) fun t8 =>
  dyK F t3 [t8] h1 fun t9 h2 =>
  cdK t9 (some (t5, h2))
  (bV (aBin Ty .add 3 t5 (.int .i64 1)) fun t10 =>
  j1 t2 t3 t4 t10 h2))
  (some ((.int .i64 (-1)), h1))) NN a0 a1 t1 (.int .i64 0) h0
theorem e236 (F : FK) (a0 : Value) (a1 : Value) (h : H) : runK Ty F (lvT 236) (jvT 236) NN FU Go.Proofs.Tryz.f236 [a0, a1] h = F236 F a0 a1 h := by kernel_rfl
def F237 (F : FK) (a0 : Value) (a1 : Value) (a2 : Value) (h0 : H) : Rz :=
  bxK 40 a2 h0 fun t1 h1 =>
  jn ((H → Rz) × Unit) (lpK ((H → Rz) × Unit) (fun _ => none, ()) (fun j1 => (fun h2 =>
  some (.tuple #[(.slice none 0 0), (.bool false)], h2), ())) NN) fun j2 =>
  bV (fa 0 t1) fun t2 =>
  bV (ld ty3 h1 t2) fun t3 =>
  bV (aBin Ty .lss 3 t3 (.int .i64 0)) fun t4 =>
  guardV t4 false (fun k => bV (fa 0 t1) fun t6 =>
  k t6 h1) h1 fun t5 h3 =>
  guardV t4 false (fun k => bV (ld ty3 h3 t5) fun t8 =>
  k t8 h3) h3 fun t7 h4 =>
  guardV t4 false (fun k => bV (aBin Ty .gtr 3 t7 (.int .i64 7)) fun t10 =>
  k t10 h4) h4 fun t9 h5 =>
  pickK t4 (.bool true) t9 fun t11 =>
  guardV t11 false (fun k => k a1 h5) h5 fun t12 h6 =>
  guardV t11 false (fun k => bV (aBin Ty .lss 3 t12 (.int .i64 0)) fun t14 =>
  k t14 h6) h6 fun t13 h7 =>
  pickK t11 (.bool true) t13 fun t15 =>
  guardV t15 false (fun k => k a1 h7) h7 fun t16 h8 =>
  guardV t15 false (fun k => bV (aBin Ty .geq 3 t16 (.int .i64 200)) fun t18 =>
  k t18 h8) h8 fun t17 h9 =>
  pickK t15 (.bool true) t17 fun t19 =>
  cdK t19 (j2.1 h9)
  (lwK h9 (bV (fa 0 t1) fun t20 =>
  psK h9 [t20] (bV (ld ty3 h9 t20) fun t21 =>
  bV (aConv Ty 5 t21) fun t22 =>
  bV (aBin Ty .shr 3 a1 (.int .u64 8)) fun t23 =>
  bV (aConv Ty 5 t23) fun t24 =>
  bV (aConv Ty 5 a1) fun t25 =>
  bVH (aBuildSlice Ty h9 22 4 [(0, t22), (1, a0), (2, t24), (3, t25)]) fun t26 h10 =>
  bV (fa 1 t1) fun t27 =>
  bV (aSlice Ty 38 t27 none none none) fun t28 =>
  bVH (aBuildSlice Ty h10 100 2 [(0, t26), (1, t28)]) fun t29 h11 =>
  caD (F 67 [t29] (lw0 h11)) h11 [] fun t30 h12 h13 =>
  bVH (F 262 [t30] h13) fun t31 h14 =>
  bVH (F 261 [t31] h14) fun t32 h15 =>
  bVH (aAppend Ty h15 22 22 t30 t32) fun t33 h16 =>
  some (.tuple #[t33, (.bool true)], h16))))
theorem e237 (F : FK) (a0 : Value) (a1 : Value) (a2 : Value) (h : H) : runK Ty F (lvT 237) (jvT 237) NN FU Go.Proofs.Tryz.f237 [a0, a1, a2] h = F237 F a0 a1 a2 h := by kernel_rfl
def F238 (F : FK) (a0 : Value) (a1 : Value) (h0 : H) : Rz :=
  bVH (aBuildSlice Ty h0 22 3 [(0, (.int .u8 65)), (1, (.int .u8 78)), (2, a0)]) fun t1 h1 =>
  bVH (F 264 [t1, a1, (.int .i64 4)] h1) fun t2 h2 =>
  bVH (F 263 [t2] h2) fun t3 h3 =>
  some (t3, h3)
theorem e238 (F : FK) (a0 : Value) (a1 : Value) (h : H) : runK Ty F (lvT 238) (jvT 238) NN FU Go.Proofs.Tryz.f238 [a0, a1] h = F238 F a0 a1 h := by kernel_rfl
def F240 (F : FK) (a0 : Value) (h0 : H) : Rz :=
  bxK 26 a0 h0 fun t1 h1 =>
  bV (fa 0 t1) fun t2 =>
  bV (ld ty3 h1 t2) fun t3 =>
  bV (aBin Ty .geq 3 t3 (.int .i64 0)) fun t4 =>
  guardV t4 true (fun k => bV (fa 0 t1) fun t6 =>
  k t6 h1) h1 fun t5 h2 =>
  guardV t4 true (fun k => bV (ld ty3 h2 t5) fun t8 =>
  k t8 h2) h2 fun t7 h3 =>
  guardV t4 true (fun k => bV (aBin Ty .leq 3 t7 (.int .i64 3)) fun t10 =>
  k t10 h3) h3 fun t9 h4 =>
  pickK t4 t9 (.bool false) fun t11 =>
  guardV t11 true (fun k => bV (fa 1 t1) fun t13 =>
  k t13 h4) h4 fun t12 h5 =>
  guardV t11 true (fun k => bV (ld ty3 h5 t12) fun t15 =>
  k t15 h5) h5 fun t14 h6 =>
  guardV t11 true (fun k => bV (aBin Ty .geq 3 t14 (.int .i64 0)) fun t17 =>
  k t17 h6) h6 fun t16 h7 =>
  pickK t11 t16 (.bool false) fun t18 =>
  guardV t18 true (fun k => bV (fa 1 t1) fun t20 =>
  k t20 h7) h7 fun t19 h8 =>
  guardV t18 true (fun k => bV (ld ty3 h8 t19) fun t22 =>
  k t22 h8) h8 fun t21 h9 =>
  guardV t18 true (fun k => bV (aBin Ty .leq 3 t21 (.int .i64 15)) fun t24 =>
  k t24 h9) h9 fun t23 h10 =>
  pickK t18 t23 (.bool false) fun t25 =>
  some (t25, h10)
theorem e240 (F : FK) (a0 : Value) (h : H) : runK Ty F (lvT 240) (jvT 240) NN FU Go.Proofs.Tryz.f240 [a0] h = F240 F a0 h := by kernel_rfl
def F241 (F : FK) (a0 : Value) (h0 : H) : Rz :=
  bV (aLen Ty h0 22 a0) fun t1 =>
  lpK (Value → Value → Value → Value → H → Rz) (fun _ _ _ _ _ => none) (fun j1 => fun t2 t3 t4 t5 h1 =>
  bV (aBin Ty .lss 3 t5 t4) fun t6 =>
  cdK t6 (bV (aIndexAddr Ty 22 t3 t5) fun t7 =>
  bV (ld ty5 h1 t7) fun t8 =>
  bV (aBin Ty .shl 54 t2 (.int .u64 8)) fun t9 =>
  bV (aConv Ty 54 t8) fun t10 =>
  bV (aBin Ty .or 54 t9 t10) fun t11 =>
  bV (aBin Ty .add 3 t5 (.int .i64 1)) fun t12 =>
  j1 t11 t3 t4 t12 h1)
  (some (t2, h1))) NN (.int .u32 0) a0 t1 (.int .i64 0) h0
theorem e241 (F : FK) (a0 : Value) (h : H) : runK Ty F (lvT 241) (jvT 241) NN FU Go.Proofs.Tryz.f241 [a0] h = F241 F a0 h := by kernel_rfl
def F242 (F : FK) (a0 : Value) (a1 : Value) (h0 : H) : Rz :=
  bVH (cvK Ty 22 9 a0 h0) fun t1 h1 =>
  bVH (cvK Ty 22 9 a1 h1) fun t2 h2 =>
  bV (aBin Ty .eql 9 t1 t2) fun t3 =>
  some (t3, h2)
theorem e242 (F : FK) (a0 : Value) (a1 : Value) (h : H) : runK Ty F (lvT 242) (jvT 242) NN FU Go.Proofs.Tryz.f242 [a0, a1] h = F242 F a0 a1 h := by kernel_rfl
def F245 (F : FK) (a0 : Value) (a1 : Value) (h0 : H) : Rz :=
  bV (ld ty207 h0 a1) fun t1 =>
  bVH (aRangeStr Ty h0 207 t1) fun t2 h1 =>
  lpK (Value → Value → H → Rz) (fun _ _ _ => none) (fun j1 => fun t3 t4 h2 =>
  bVH (aNextMap h2 t4) fun t5 h3 =>
  bV (aExtract t5 0) fun t6 =>
  cdK t6 (bV (aEntry h3 t4) fun t7 =>
  bV (aExtract t7 0) fun t8 =>
  dyK F t3 [t8] h3 fun t9 h4 =>
  bV (aUn .not t9) fun t10 =>
  cdK t10 (some (.tuple #[], h4))
  (j1 t3 t4 h4))
  (some (.tuple #[], h3))) NN a0 t2 h1
theorem e245 (F : FK) (a0 : Value) (a1 : Value) (h : H) : runK Ty F (lvT 245) (jvT 245) NN FU Go.Proofs.Tryz.f245 [a0, a1] h = F245 F a0 a1 h := by kernel_rfl
def F246 (F : FK) (a0 : Value) (h0 : H) : Rz :=
  alK 56 ty56 h0 fun t1 h1 =>
  bV (aLen Ty h1 22 a0) fun t2 =>
  bV (aBin Ty .neq 3 t2 (.int .i64 7)) fun t3 =>
  cdK t3 (bV (aBuild Ty 56 []) fun t4 =>
  bH (st ty56 h1 t1 t4) fun h2 =>
  bV (ld ty56 h2 t1) fun t5 =>
  some (.tuple #[t5, (.bool false)], h2))
  (lwK h1 (bV (aIndexAddr Ty 22 a0 (.int .i64 0)) fun t6 =>
  psK h1 [t6] (bV (ld ty5 h1 t6) fun t7 =>
  bV (aConv Ty 3 t7) fun t8 =>
  bV (aIndexAddr Ty 22 a0 (.int .i64 1)) fun t9 =>
  psK h1 [t9] (bV (ld ty5 h1 t9) fun t10 =>
  bV (aConv Ty 3 t10) fun t11 =>
  bV (aBin Ty .shl 3 t11 (.int .u64 8)) fun t12 =>
  bV (aIndexAddr Ty 22 a0 (.int .i64 2)) fun t13 =>
  psK h1 [t13] (bV (ld ty5 h1 t13) fun t14 =>
  bV (aConv Ty 3 t14) fun t15 =>
  bV (aBin Ty .or 3 t12 t15) fun t16 =>
  bV (aIndexAddr Ty 22 a0 (.int .i64 3)) fun t17 =>
  psK h1 [t17] (bV (ld ty5 h1 t17) fun t18 =>
  bV (aConv Ty 54 t18) fun t19 =>
  bV (aBin Ty .shl 54 t19 (.int .u64 24)) fun t20 =>
  bV (aIndexAddr Ty 22 a0 (.int .i64 4)) fun t21 =>
  psK h1 [t21] (bV (ld ty5 h1 t21) fun t22 =>
  bV (aConv Ty 54 t22) fun t23 =>
  bV (aBin Ty .shl 54 t23 (.int .u64 16)) fun t24 =>
  bV (aBin Ty .or 54 t20 t24) fun t25 =>
  bV (aIndexAddr Ty 22 a0 (.int .i64 5)) fun t26 =>
  psK h1 [t26] (bV (ld ty5 h1 t26) fun t27 =>
  bV (aConv Ty 54 t27) fun t28 =>
  bV (aBin Ty .shl 54 t28 (.int .u64 8)) fun t29 =>
  bV (aBin Ty .or 54 t25 t29) fun t30 =>
  bV (aIndexAddr Ty 22 a0 (.int .i64 6)) fun t31 =>
  psK h1 [t31] (bV (ld ty5 h1 t31) fun t32 =>
  bV (aConv Ty 54 t32) fun t33 =>
  bV (aBin Ty .or 54 t30 t33) fun t34 =>
  bV (aBuild Ty 56 [(0, t8), (1, t16), (2, t34)]) fun t35 =>
  alK 56 ty56 h1 fun t36 h3 =>
  psK h3 [t36] (bH (st ty56 h3 t36 t35) fun h4 =>
  jn (Value → Value → Value → H → Rz) (fun t37 t38 t39 h5 =>
  bV (ld ty56 h5 t39) fun t40 =>
  bVH (F 178 [t40] h5) fun t41 h6 =>
  bV (aBin Ty .eql 22 t41 (.slice none 0 0)) fun t42 =>
  guardV t42 false (fun k => k t41 h6) h6 fun t43 h7 =>
  guardV t42 false (fun k => k t37 h7) h7 fun t44 h8 =>
  guardV t42 false (fun k => bVH (F 242 [t43, t44] h8) fun t46 h10 =>
  k t46 h10) h8 fun t45 h9 =>
  guardV t42 false (fun k => bV (aUn .not t45) fun t48 =>
  k t48 h9) h9 fun t47 h11 =>
  pickK t42 (.bool true) t47 fun t49 =>
  cdK t49 (bV (aBuild Ty 56 []) fun t50 =>
  bH (st ty56 h11 t38 t50) fun h12 =>
  bV (ld ty56 h12 t38) fun t51 =>
  some (.tuple #[t51, (.bool false)], h12))
  (bV (ld ty56 h11 t39) fun t52 =>
  bH (st ty56 h11 t38 t52) fun h13 =>
  bV (ld ty56 h13 t38) fun t53 =>
  some (.tuple #[t53, (.bool true)], h13))) fun j1 =>
  bV (aIndexAddr Ty 22 a0 (.int .i64 0)) fun t54 =>
  bV (ld ty5 h4 t54) fun t55 =>
  bV (aBin Ty .eql 5 t55 (.int .u8 255)) fun t56 =>
  cdK t56 (bV (fa 0 t36) fun t57 =>
  bH (st ty3 h4 t57 (.int .i64 (-1))) fun h14 =>
  j1 a0 t1 t36 h14)
  (j1 a0 t1 t36 h4)))))))))))
theorem e246 (F : FK) (a0 : Value) (h : H) : runK Ty F (lvT 246) (jvT 246) NN FU Go.Proofs.Tryz.f246 [a0] h = F246 F a0 h := by kernel_rfl
def F247 (F : FK) (a0 : Value) (a1 : Value) (a2 : Value) (h0 : H) : Rz :=
  bV (aBin Ty .lss 3 a1 (.int .i64 0)) fun t1 =>
  guardV t1 false (fun k => k a1 h0) h0 fun t2 h1 =>
  guardV t1 false (fun k => k a0 h1) h1 fun t3 h2 =>
  guardV t1 false (fun k => bV (aNilCheck t3) fun t5 =>
  k t5 h2) h2 fun t4 h3 =>
  guardV t1 false (fun k => bV (fa 1 t4) fun t7 =>
  k t7 h3) h3 fun t6 h4 =>
  guardV t1 false (fun k => bV (ld ty41 h4 t6) fun t9 =>
  k t9 h4) h4 fun t8 h5 =>
  guardV t1 false (fun k => bV (aLen Ty h5 41 t8) fun t11 =>
  k t11 h5) h5 fun t10 h6 =>
  guardV t1 false (fun k => bV (aBin Ty .geq 3 t2 t10) fun t13 =>
  k t13 h6) h6 fun t12 h7 =>
  pickK t1 (.bool true) t12 fun t14 =>
  guardV t14 false (fun k => k a0 h7) h7 fun t15 h8 =>
  guardV t14 false (fun k => bV (aNilCheck t15) fun t17 =>
  k t17 h8) h8 fun t16 h9 =>
  guardV t14 false (fun k => bV (fa 1 t16) fun t19 =>
  k t19 h9) h9 fun t18 h10 =>
  guardV t14 false (fun k => bV (ld ty41 h10 t18) fun t21 =>
  k t21 h10) h10 fun t20 h11 =>
  guardV t14 false (fun k => k a1 h11) h11 fun t22 h12 =>
  guardV t14 false (fun k => bV (aIndexAddr Ty 41 t20 t22) fun t24 =>
  k t24 h12) h12 fun t23 h13 =>
  guardV t14 false (fun k => bV (fa 0 t23) fun t26 =>
  k t26 h13) h13 fun t25 h14 =>
  guardV t14 false (fun k => bV (ld ty3 h14 t25) fun t28 =>
  k t28 h14) h14 fun t27 h15 =>
  guardV t14 false (fun k => k a2 h15) h15 fun t29 h16 =>
  guardV t14 false (fun k => bV (aBin Ty .neq 3 t27 t29) fun t31 =>
  k t31 h16) h16 fun t30 h17 =>
  pickK t14 (.bool true) t30 fun t32 =>
  guardV t32 false (fun k => k a0 h17) h17 fun t33 h18 =>
  guardV t32 false (fun k => bV (aNilCheck t33) fun t35 =>
  k t35 h18) h18 fun t34 h19 =>
  guardV t32 false (fun k => bV (fa 5 t34) fun t37 =>
  k t37 h19) h19 fun t36 h20 =>
  guardV t32 false (fun k => bV (ld ty207 h20 t36) fun t39 =>
  k t39 h20) h20 fun t38 h21 =>
  guardV t32 false (fun k => k a1 h21) h21 fun t40 h22 =>
  guardV t32 false (fun k => bV (aLookup Ty h22 207 t38 t40 false) fun t42 =>
  k t42 h22) h22 fun t41 h23 =>
  pickK t32 (.bool true) t41 fun t43 =>
  cdK t43 (some ((.bool false), h23))
  (bV (aNilCheck a0) fun t44 =>
  bV (fa 5 t44) fun t45 =>
  bV (ld ty207 h23 t45) fun t46 =>
  bH (aMapUpdate Ty h23 207 t46 a1 (.bool true)) fun h24 =>
  some ((.bool true), h24))
theorem e247 (F : FK) (a0 : Value) (a1 : Value) (a2 : Value) (h : H) : runK Ty F (lvT 247) (jvT 247) NN FU Go.Proofs.Tryz.f247 [a0, a1, a2] h = F247 F a0 a1 a2 h := by kernel_rfl
def F248 (F : FK) (a0 : Value) (a1 : Value) (a2 : Value) (a3 : Value) (h0 : H) : Rz :=
  bV (aBin Ty .eql 3 a2 (.int .i64 (-1))) fun t1 =>
  cdK t1 (some ((.bool true), h0))
  (bV (aBin Ty .mul 3 a1 (.int .i64 56)) fun t2 =>
  bV (aBin Ty .sub 3 a3 t2) fun t3 =>
  bV (aBin Ty .leq 3 t3 (.int .i64 0)) fun t4 =>
  guardV t4 false (fun k => k a0 h0) h0 fun t5 h1 =>
  guardV t4 false (fun k => k a2 h1) h1 fun t6 h2 =>
  guardV t4 false (fun k => bVH (F 247 [t5, t6, (.int .i64 4)] h2) fun t8 h4 =>
  k t8 h4) h2 fun t7 h3 =>
  guardV t4 false (fun k => bV (aUn .not t7) fun t10 =>
  k t10 h3) h3 fun t9 h5 =>
  pickK t4 (.bool true) t9 fun t11 =>
  cdK t11 (some ((.bool false), h5))
  (bV (aNilCheck a0) fun t12 =>
  bV (fa 1 t12) fun t13 =>
  bV (ld ty41 h5 t13) fun t14 =>
  bV (aIndexAddr Ty 41 t14 a2) fun t15 =>
  bV (fa 1 t15) fun t16 =>
  bV (aMin2 t3 (.int .i64 56)) fun t17 =>
  bV (aSlice Ty 38 t16 (some t17) none none) fun t18 =>
  bV (aLen Ty h5 22 t18) fun t19 =>
  lpK (Value → Value → Value → H → Rz) (fun _ _ _ _ => none) (fun j1 => fun t20 t21 t22 h6 =>
  bV (aBin Ty .lss 3 t22 t21) fun t23 =>
  cdK t23 (bV (aIndexAddr Ty 22 t20 t22) fun t24 =>
  bV (ld ty5 h6 t24) fun t25 =>
  bV (aBin Ty .neq 5 t25 (.int .u8 0)) fun t26 =>
  cdK t26 (some ((.bool false), h6))
  (bV (aBin Ty .add 3 t22 (.int .i64 1)) fun t27 =>
  j1 t20 t21 t27 h6))
  (some ((.bool true), h6))) NN t18 t19 (.int .i64 0) h5))
theorem e248 (F : FK) (a0 : Value) (a1 : Value) (a2 : Value) (a3 : Value) (h : H) : runK Ty F (lvT 248) (jvT 248) NN FU Go.Proofs.Tryz.f248 [a0, a1, a2, a3] h = F248 F a0 a1 a2 a3 h := by kernel_rfl
def F249 (F : FK) (a0 : Value) (h0 : H) : Rz :=
  bxK 75 a0 h0 fun t1 h1 =>
  mmK 207 h1 fun t2 h2 =>
  bV (ld ty75 h2 t1) fun t3 =>
  bVH (F 214 [t3] h2) fun t4 h3 =>
  bV (aLen Ty h3 87 t4) fun t5 =>
  lpK (Value → Value → Value → Value → Value → H → Rz) (fun _ _ _ _ _ _ => none) (fun j1 => fun t6 t7 t8 t9 t10 h4 =>
  bV (aBin Ty .lss 3 t10 t9) fun t11 =>
  cdK t11 (jn (Value → Value → Value → Value → Value → H → Rz) (fun t12 t13 t14 t15 t16 h5 =>
  bV (aBin Ty .add 3 t16 (.int .i64 1)) fun t17 =>
  j1 t12 t13 t14 t15 t17 h5) fun j2 =>
  bV (aIndexAddr Ty 87 t8 t10) fun t18 =>
  bV (ld ty3 h4 t18) fun t19 =>
  bV (aBin Ty .eql 3 t19 (.int .i64 (-1))) fun t20 =>
  cdK t20 (j2 t6 t7 t8 t9 t10 h4)
  (bV (aBin Ty .lss 3 t19 (.int .i64 1)) fun t21 =>
  guardV t21 false (fun k => k t19 h4) h4 fun t22 h6 =>
  guardV t21 false (fun k => bV (aBin Ty .geq 3 t22 (.int .i64 200)) fun t24 =>
  k t24 h6) h6 fun t23 h7 =>
  pickK t21 (.bool true) t23 fun t25 =>
  guardV t25 false (fun k => k t7 h7) h7 fun t26 h8 =>
  guardV t25 false (fun k => k t19 h8) h8 fun t27 h9 =>
  guardV t25 false (fun k => bV (aLookup Ty h9 207 t26 t27 false) fun t29 =>
  k t29 h9) h9 fun t28 h10 =>
  pickK t25 (.bool true) t28 fun t30 =>
  cdK t30 (some ((.bool false), h10))
  (bH (aMapUpdate Ty h10 207 t7 t19 (.bool true)) fun h11 =>
  j2 t6 t7 t8 t9 t10 h11)))
  (bV (fa 2 t6) fun t31 =>
  bV (ld ty3 h4 t31) fun t32 =>
  bV (aBin Ty .geq 3 t32 (.int .i64 0)) fun t33 =>
  guardV t33 true (fun k => bV (fa 2 t6) fun t35 =>
  k t35 h4) h4 fun t34 h12 =>
  guardV t33 true (fun k => bV (ld ty3 h12 t34) fun t37 =>
  k t37 h12) h12 fun t36 h13 =>
  guardV t33 true (fun k => bV (aBin Ty .leq 3 t36 (.int .i64 1120)) fun t39 =>
  k t39 h13) h13 fun t38 h14 =>
  pickK t33 t38 (.bool false) fun t40 =>
  guardV t40 true (fun k => bV (fa 8 t6) fun t42 =>
  k t42 h14) h14 fun t41 h15 =>
  guardV t40 true (fun k => bV (ld ty9 h15 t41) fun t44 =>
  k t44 h15) h15 fun t43 h16 =>
  guardV t40 true (fun k => bV (aBin Ty .eql 9 t43 (.string ⟨#[]⟩)) fun t46 =>
  k t46 h16) h16 fun t45 h17 =>
  pickK t40 t45 (.bool false) fun t47 =>
  some (t47, h17))) NN t1 t2 t4 t5 (.int .i64 0) h3
theorem e249 (F : FK) (a0 : Value) (h : H) : runK Ty F (lvT 249) (jvT 249) NN FU Go.Proofs.Tryz.f249 [a0] h = F249 F a0 h := by kernel_rfl
def F250 (F : FK) (a0 : Value) (h0 : H) : Rz :=
  bxK 75 a0 h0 fun t1 h1 =>
  bV (ld ty75 h1 t1) fun t2 =>
  bVH (F 214 [t2] h1) fun t3 h2 =>
  bV (aLen Ty h2 87 t3) fun t4 =>
  lpK (Value → Value → Value → H → Rz) (fun _ _ _ _ => none) (fun j1 => fun t5 t6 t7 h3 =>
  bV (aBin Ty .lss 3 t7 t6) fun t8 =>
  cdK t8 (bV (aIndexAddr Ty 87 t5 t7) fun t9 =>
  bV (ld ty3 h3 t9) fun t10 =>
  bV (aBin Ty .neq 3 t10 (.int .i64 (-1))) fun t11 =>
  cdK t11 (some ((.bool false), h3))
  (bV (aBin Ty .add 3 t7 (.int .i64 1)) fun t12 =>
  j1 t5 t6 t12 h3))
  (some ((.bool true), h3))) NN t3 t4 (.int .i64 0) h2
theorem e250 (F : FK) (a0 : Value) (h : H) : runK Ty F (lvT 250) (jvT 250) NN FU Go.Proofs.Tryz.f250 [a0] h = F250 F a0 h := by kernel_rfl
def F251 (F : FK) (a0 : Value) (h0 : H) : Rz :=
  bV (aLen Ty h0 9 a0) fun t1 =>
  bV (aBin Ty .geq 3 t1 (.int .i64 1)) fun t2 =>
  guardV t2 true (fun k => k a0 h0) h0 fun t3 h1 =>
  guardV t2 true (fun k => bV (aLen Ty h1 9 t3) fun t5 =>
  k t5 h1) h1 fun t4 h2 =>
  guardV t2 true (fun k => bV (aBin Ty .leq 3 t4 (.int .i64 32)) fun t7 =>
  k t7 h2) h2 fun t6 h3 =>
  pickK t2 t6 (.bool false) fun t8 =>
  guardV t8 true (fun k => k a0 h3) h3 fun t9 h4 =>
  guardV t8 true (fun k => bVH (F 157 [t9, (.func (.func 268) #[] #[])] h4) fun t11 h6 =>
  k t11 h6) h4 fun t10 h5 =>
  guardV t8 true (fun k => bV (aUn .not t10) fun t13 =>
  k t13 h5) h5 fun t12 h7 =>
  pickK t8 t12 (.bool false) fun t14 =>
  some (t14, h7)
theorem e251 (F : FK) (a0 : Value) (h : H) : runK Ty F (lvT 251) (jvT 251) NN FU Go.Proofs.Tryz.f251 [a0] h = F251 F a0 h := by kernel_rfl
def F252 (F : FK) (a0 : Value) (h0 : H) : Rz :=
  mmK 207 h0 fun t1 h1 =>
  bV (aLen Ty h1 218 a0) fun t2 =>
  lpK (Value → Value → Value → Value → Value → H → Rz) (fun _ _ _ _ _ _ => none) (fun j1 => fun t3 t4 t5 t6 t7 h2 =>
  bV (aBin Ty .lss 3 t7 t6) fun t8 =>
  cdK t8 (bV (aIndexAddr Ty 218 t5 t7) fun t9 =>
  bV (ld ty278 h2 t9) fun t10 =>
  alK 278 ty278 h2 fun t11 h3 =>
  bH (st ty278 h3 t11 t10) fun h4 =>
  bV (fa 1 t11) fun t12 =>
  bV (fa 0 t12) fun t13 =>
  bV (ld ty3 h4 t13) fun t14 =>
  bV (aBin Ty .lss 3 t14 (.int .i64 0)) fun t15 =>
  guardV t15 false (fun k => bV (fa 1 t11) fun t17 =>
  k t17 h4) h4 fun t16 h5 =>
  guardV t15 false (fun k => bV (fa 0 t16) fun t19 =>
  k t19 h5) h5 fun t18 h6 =>
  guardV t15 false (fun k => bV (ld ty3 h6 t18) fun t21 =>
  k t21 h6) h6 fun t20 h7 =>
  guardV t15 false (fun k => bV (aBin Ty .gtr 3 t20 (.int .i64 7)) fun t23 =>
  k t23 h7) h7 fun t22 h8 =>
  pickK t15 (.bool true) t22 fun t24 =>
  guardV t24 false (fun k => bV (fa 0 t11) fun t26 =>
  k t26 h8) h8 fun t25 h9 =>
  guardV t24 false (fun k => bV (ld ty3 h9 t25) fun t28 =>
  k t28 h9) h9 fun t27 h10 =>
  guardV t24 false (fun k => bV (aBin Ty .lss 3 t27 (.int .i64 0)) fun t30 =>
  k t30 h10) h10 fun t29 h11 =>
  pickK t24 (.bool true) t29 fun t31 =>
  guardV t31 false (fun k => bV (fa 0 t11) fun t33 =>
  k t33 h11) h11 fun t32 h12 =>
  guardV t31 false (fun k => bV (ld ty3 h12 t32) fun t35 =>
  k t35 h12) h12 fun t34 h13 =>
  guardV t31 false (fun k => bV (aBin Ty .geq 3 t34 (.int .i64 200)) fun t37 =>
  k t37 h13) h13 fun t36 h14 =>
  pickK t31 (.bool true) t36 fun t38 =>
  guardV t38 false (fun k => k t4 h14) h14 fun t39 h15 =>
  guardV t38 false (fun k => bV (fa 0 t11) fun t41 =>
  k t41 h15) h15 fun t40 h16 =>
  guardV t38 false (fun k => bV (ld ty3 h16 t40) fun t43 =>
  k t43 h16) h16 fun t42 h17 =>
  guardV t38 false (fun k => bV (aLookup Ty h17 207 t39 t42 false) fun t45 =>
  k t45 h17) h17 fun t44 h18 =>
  pickK t38 (.bool true) t44 fun t46 =>
  cdK t46 (some ((.bool false), h18))
  (bV (fa 0 t11) fun t47 =>
  bV (ld ty3 h18 t47) fun t48 =>
  bH (aMapUpdate Ty h18 207 t4 t48 (.bool true)) fun h19 =>
  bV (aBin Ty .add 3 t7 (.int .i64 1)) fun t49 =>
  j1 t3 t4 t5 t6 t49 h19))
  (bV (aLen Ty h2 218 t3) fun t50 =>
  bV (aBin Ty .geq 3 t50 (.int .i64 1)) fun t51 =>
  guardV t51 true (fun k => k t3 h2) h2 fun t52 h20 =>
  guardV t51 true (fun k => bV (aLen Ty h20 218 t52) fun t54 =>
  k t54 h20) h20 fun t53 h21 =>
  guardV t51 true (fun k => bV (aBin Ty .leq 3 t53 (.int .i64 12)) fun t56 =>
  k t56 h21) h21 fun t55 h22 =>
  pickK t51 t55 (.bool false) fun t57 =>
  some (t57, h22))) NN a0 t1 a0 t2 (.int .i64 0) h1
theorem e252 (F : FK) (a0 : Value) (h : H) : runK Ty F (lvT 252) (jvT 252) NN FU Go.Proofs.Tryz.f252 [a0] h = F252 F a0 h := by kernel_rfl
def F253 (F : FK) (a0 : Value) (a1 : Value) (a2 : Value) (a3 : Value) (h0 : H) : Rz :=
  bVH (aBuildSlice Ty h0 22 2 [(0, (.int .u8 72)), (1, a0)]) fun t1 h1 =>
  bVH (F 264 [t1, a1, (.int .i64 4)] h1) fun t2 h2 =>
  bVH (F 264 [t2, a2, (.int .i64 4)] h2) fun t3 h3 =>
  bV (aLen Ty h3 218 a3) fun t4 =>
  bV (aConv Ty 5 t4) fun t5 =>
  bVH (aBuildSlice Ty h3 22 1 [(0, t5)]) fun t6 h4 =>
  bVH (aAppend Ty h4 22 22 t3 t6) fun t7 h5 =>
  bV (aLen Ty h5 218 a3) fun t8 =>
  lpK (Value → Value → Value → Value → H → Rz) (fun _ _ _ _ _ => none) (fun j1 => fun t9 t10 t11 t12 h6 =>
  bV (aBin Ty .lss 3 t12 t11) fun t13 =>
  cdK t13 (bV (aIndexAddr Ty 218 t10 t12) fun t14 =>
  bV (ld ty278 h6 t14) fun t15 =>
  alK 278 ty278 h6 fun t16 h7 =>
  bH (st ty278 h7 t16 t15) fun h8 =>
  lwK h8 (bV (fa 0 t16) fun t17 =>
  psK h8 [t17] (bV (ld ty3 h8 t17) fun t18 =>
  bV (aConv Ty 54 t18) fun t19 =>
  caD (F 264 [t9, t19, (.int .i64 2)] (lw0 h8)) h8 [] fun t20 h9 h10 =>
  bV (fa 1 t16) fun t21 =>
  bV (fa 0 t21) fun t22 =>
  psK h10 [t22] (ckK [t22] [(h8, h9)] [(h8, h9)] [] (bV (ld ty3 h10 t22) fun t23 =>
  bV (aConv Ty 54 t23) fun t24 =>
  caD (F 264 [t20, t24, (.int .i64 1)] (lw0 h10)) h10 [] fun t25 h11 h12 =>
  bV (aBin Ty .add 3 t12 (.int .i64 1)) fun t26 =>
  j1 t25 t10 t11 t26 h12)))))
  (bVH (F 263 [t9] h6) fun t27 h13 =>
  some (t27, h13))) NN t7 a3 t8 (.int .i64 0) h5
theorem e253 (F : FK) (a0 : Value) (a1 : Value) (a2 : Value) (a3 : Value) (h : H) : runK Ty F (lvT 253) (jvT 253) NN FU Go.Proofs.Tryz.f253 [a0, a1, a2, a3] h = F253 F a0 a1 a2 a3 h := by kernel_rfl
def F254 (F : FK) (a0 : Value) (a1 : Value) (a2 : Value) (h0 : H) : Rz :=
  bxK 278 a2 h0 fun t1 h1 =>
  bV (fa 1 t1) fun t2 =>
  bV (fa 1 t2) fun t3 =>
  bV (aSlice Ty 38 t3 none none none) fun t4 =>
  bVH (F 66 [t4] h1) fun t5 h2 =>
  bVH (F 264 [t5, a0, (.int .i64 2)] h2) fun t6 h3 =>
  bVH (F 264 [t6, a1, (.int .i64 2)] h3) fun t7 h4 =>
  bVH (F 263 [t7] h4) fun t8 h5 =>
  some (t8, h5)
theorem e254 (F : FK) (a0 : Value) (a1 : Value) (a2 : Value) (h : H) : runK Ty F (lvT 254) (jvT 254) NN FU Go.Proofs.Tryz.f254 [a0, a1, a2] h = F254 F a0 a1 a2 h := by kernel_rfl
def F255 (F : FK) (a0 : Value) (a1 : Value) (h0 : H) : Rz :=
  bV (aLen Ty h0 218 a0) fun t1 =>
  lpK (Value → Value → Value → Value → H → Rz) (fun _ _ _ _ _ => none) (fun j1 => fun t2 t3 t4 t5 h1 =>
  bV (aBin Ty .lss 3 t5 t4) fun t6 =>
  cdK t6 (bV (aIndexAddr Ty 218 t2 t5) fun t7 =>
  bV (ld ty278 h1 t7) fun t8 =>
  dyK F t3 [t8] h1 fun t9 h2 =>
  cdK t9 (some (t5, h2))
  (bV (aBin Ty .add 3 t5 (.int .i64 1)) fun t10 =>
  j1 t2 t3 t4 t10 h2))
  (some ((.int .i64 (-1)), h1))) NN a0 a1 t1 (.int .i64 0) h0
theorem e255 (F : FK) (a0 : Value) (a1 : Value) (h : H) : runK Ty F (lvT 255) (jvT 255) NN FU Go.Proofs.Tryz.f255 [a0, a1] h = F255 F a0 a1 h := by kernel_rfl
def F256 (F : FK) (a0 : Value) (a1 : Value) (h0 : H) : Rz :=
  bV (ld ty205 h0 a1) fun t1 =>
  bVH (aRangeStr Ty h0 205 t1) fun t2 h1 =>
  lpK (Value → Value → H → Rz) (fun _ _ _ => none) (fun j1 => fun t3 t4 h2 =>
  bVH (aNextMap h2 t4) fun t5 h3 =>
  bV (aExtract t5 0) fun t6 =>
  cdK t6 (bV (aEntry h3 t4) fun t7 =>
  bV (aExtract t7 0) fun t8 =>
  dyK F t3 [t8] h3 fun t9 h4 =>
  bV (aUn .not t9) fun t10 =>
  cdK t10 (some (.tuple #[], h4))
  (j1 t3 t4 h4))
  (some (.tuple #[], h3))) NN a0 t2 h1
theorem e256 (F : FK) (a0 : Value) (a1 : Value) (h : H) : runK Ty F (lvT 256) (jvT 256) NN FU Go.Proofs.Tryz.f256 [a0, a1] h = F256 F a0 a1 h := by kernel_rfl
def F257 (F : FK) (a0 : Value) (a1 : Value) (a2 : Value) (h0 : H) : Rz :=
  bVH (aRangeStr Ty h0 9 a0) fun t1 h1 =>
  lpK (Value → Value → Value → H → Rz) (fun _ _ _ _ => none) (fun j1 => fun t2 t3 t4 h2 =>
  bVH (aNextStr h2 t4) fun t5 h3 =>
  bV (aExtract t5 0) fun t6 =>
  cdK t6 (bV (aExtract t5 1) fun t7 =>
  bV (aExtract t5 2) fun t8 =>
  dyK F t2 [t8] h3 fun t9 h4 =>
  bV (aBin Ty .eql 4 t9 t3) fun t10 =>
  cdK t10 (some (t7, h4))
  (j1 t2 t3 t4 h4))
  (some ((.int .i64 (-1)), h3))) NN a1 a2 t1 h1
theorem e257 (F : FK) (a0 : Value) (a1 : Value) (a2 : Value) (h : H) : runK Ty F (lvT 257) (jvT 257) NN FU Go.Proofs.Tryz.f257 [a0, a1, a2] h = F257 F a0 a1 a2 h := by kernel_rfl
def F258 (F : FK) (a0 : Value) (a1 : Value) (a2 : Value) (a3 : Value) (h0 : H) : Rz :=
  bV (aBin Ty .add 3 a1 (.int .i64 1)) fun t1 =>
  lpK (Value → Value → Value → Value → Value → H → Rz) (fun _ _ _ _ _ _ => none) (fun j1 => fun t2 t3 t4 t5 t6 h1 =>
  bV (aBin Ty .lss 3 t6 t4) fun t7 =>
  cdK t7 (lpK (Value → Value → Value → Value → Value → Value → H → Rz) (fun _ _ _ _ _ _ _ => none) (fun j2 => fun t8 t9 t10 t11 t12 t13 h2 =>
  lwK h2 (bV (aBin Ty .gtr 3 t13 t9) fun t14 =>
  guardV t14 true (fun k => k t11 h2) h2 fun t15 h3 =>
  guardV t14 true (fun k => k t8 h3) h3 fun t16 h4 =>
  guardV t14 true (fun k => k t13 h4) h4 fun t17 h5 =>
  guardV t14 true (fun k => bV (aIndexAddr Ty 168 t16 t17) fun t19 =>
  k t19 h5) h5 fun t18 h6 =>
  guardV t14 true (fun k => psK h6 [t18] (bV (ld ty159 h6 t18) fun t21 =>
  k t21 h6)) h6 fun t20 h7 =>
  guardV t14 true (fun k => k t8 h7) h7 fun t22 h8 =>
  guardV t14 true (fun k => k t13 h8) h8 fun t23 h9 =>
  guardV t14 true (fun k => bV (aBin Ty .sub 3 t23 (.int .i64 1)) fun t25 =>
  k t25 h9) h9 fun t24 h10 =>
  guardV t14 true (fun k => bV (aIndexAddr Ty 168 t22 t24) fun t27 =>
  k t27 h10) h10 fun t26 h11 =>
  guardV t14 true (fun k => psK h11 [t26] (bV (ld ty159 h11 t26) fun t29 =>
  k t29 h11)) h11 fun t28 h12 =>
  guardD t14 true (fun k => dyD F t15 [t20, t28] h12 [] k) h12 fun t30 h13 h14 =>
  guardV t14 true (fun k => bV (aBin Ty .lss 3 t30 (.int .i64 0)) fun t32 =>
  k t32 h14) h14 fun t31 h15 =>
  pickK t14 t31 (.bool false) fun t33 =>
  cdK t33 (lwK h15 (bV (aBin Ty .sub 3 t13 (.int .i64 1)) fun t34 =>
  bV (aBin Ty .sub 3 t13 (.int .i64 1)) fun t35 =>
  bV (aIndexAddr Ty 168 t8 t35) fun t36 =>
  psK h15 [t36] (bV (ld ty159 h15 t36) fun t37 =>
  bV (aIndexAddr Ty 168 t8 t13) fun t38 =>
  psK h15 [t38] (bV (ld ty159 h15 t38) fun t39 =>
  bV (aIndexAddr Ty 168 t8 t13) fun t40 =>
  psK h15 [t40] (bH (st ty159 h15 t40 t37) fun h16 =>
  bV (aIndexAddr Ty 168 t8 t34) fun t41 =>
  psK h16 [t41] (bH (st ty159 h16 t41 t39) fun h17 =>
  bV (aBin Ty .sub 3 t13 (.int .i64 1)) fun t42 =>
  j2 t8 t9 t10 t11 t12 t42 h17))))))
  (bV (aBin Ty .add 3 t12 (.int .i64 1)) fun t43 =>
  j1 t8 t9 t10 t11 t43 h15))) NN t2 t3 t4 t5 t6 t6 h1)
  (some (.tuple #[], h1))) NN a0 a1 a2 a3 t1 h0
theorem e258 (F : FK) (a0 : Value) (a1 : Value) (a2 : Value) (a3 : Value) (h : H) : runK Ty F (lvT 258) (jvT 258) NN FU Go.Proofs.Tryz.f258 [a0, a1, a2, a3] h = F258 F a0 a1 a2 a3 h := by kernel_rfl
def F259 (F : FK) (a0 : Value) (a1 : Value) (a2 : Value) (a3 : Value) (a4 : Value) (h0 : H) : Rz :=
  bV (aBin Ty .sub 3 a2 a1) fun t1 =>
  bV (aBin Ty .eql 3 t1 (.int .i64 1)) fun t2 =>
  cdK t2 (lpK (Value → Value → Value → Value → Value → H → Rz) (fun _ _ _ _ _ _ => none) (fun j1 => fun t3 t4 t5 t6 t7 h1 =>
  bV (aBin Ty .lss 3 t6 t7) fun t8 =>
  cdK t8 (bV (aBin Ty .add 3 t6 t7) fun t9 =>
  bV (aConv Ty 135 t9) fun t10 =>
  bV (aBin Ty .shr 135 t10 (.int .u64 1)) fun t11 =>
  bV (aConv Ty 3 t11) fun t12 =>
  lwK h1 (bV (aIndexAddr Ty 168 t3 t12) fun t13 =>
  psK h1 [t13] (bV (ld ty159 h1 t13) fun t14 =>
  bV (aIndexAddr Ty 168 t3 t4) fun t15 =>
  psK h1 [t15] (bV (ld ty159 h1 t15) fun t16 =>
  dyD F t5 [t14, t16] h1 [] fun t17 h2 h3 =>
  bV (aBin Ty .lss 3 t17 (.int .i64 0)) fun t18 =>
  cdK t18 (bV (aBin Ty .add 3 t12 (.int .i64 1)) fun t19 =>
  j1 t3 t4 t5 t19 t7 h3)
  (j1 t3 t4 t5 t6 t12 h3)))))
  (lpK (Value → Value → Value → H → Rz) (fun _ _ _ _ => none) (fun j2 => fun t20 t21 t22 h4 =>
  bV (aBin Ty .sub 3 t21 (.int .i64 1)) fun t23 =>
  bV (aBin Ty .lss 3 t22 t23) fun t24 =>
  cdK t24 (lwK h4 (bV (aBin Ty .add 3 t22 (.int .i64 1)) fun t25 =>
  bV (aBin Ty .add 3 t22 (.int .i64 1)) fun t26 =>
  bV (aIndexAddr Ty 168 t20 t26) fun t27 =>
  psK h4 [t27] (bV (ld ty159 h4 t27) fun t28 =>
  bV (aIndexAddr Ty 168 t20 t22) fun t29 =>
  psK h4 [t29] (bV (ld ty159 h4 t29) fun t30 =>
  bV (aIndexAddr Ty 168 t20 t22) fun t31 =>
  psK h4 [t31] (bH (st ty159 h4 t31 t28) fun h5 =>
  bV (aIndexAddr Ty 168 t20 t25) fun t32 =>
  psK h5 [t32] (bH (st ty159 h5 t32 t30) fun h6 =>
  bV (aBin Ty .add 3 t22 (.int .i64 1)) fun t33 =>
  j2 t20 t21 t33 h6))))))
  (some (.tuple #[], h4))) NN t3 t6 t4 h1)) NN a0 a1 a4 a2 a3 h0)
  (bV (aBin Ty .sub 3 a3 a2) fun t34 =>
  bV (aBin Ty .eql 3 t34 (.int .i64 1)) fun t35 =>
  cdK t35 (lpK (Value → Value → Value → Value → Value → H → Rz) (fun _ _ _ _ _ _ => none) (fun j3 => fun t36 t37 t38 t39 t40 h7 =>
  bV (aBin Ty .lss 3 t39 t40) fun t41 =>
  cdK t41 (bV (aBin Ty .add 3 t39 t40) fun t42 =>
  bV (aConv Ty 135 t42) fun t43 =>
  bV (aBin Ty .shr 135 t43 (.int .u64 1)) fun t44 =>
  bV (aConv Ty 3 t44) fun t45 =>
  lwK h7 (bV (aIndexAddr Ty 168 t36 t37) fun t46 =>
  psK h7 [t46] (bV (ld ty159 h7 t46) fun t47 =>
  bV (aIndexAddr Ty 168 t36 t45) fun t48 =>
  psK h7 [t48] (bV (ld ty159 h7 t48) fun t49 =>
  dyD F t38 [t47, t49] h7 [] fun t50 h8 h9 =>
  bV (aBin Ty .lss 3 t50 (.int .i64 0)) fun t51 =>
  bV (aUn .not t51) fun t52 =>
  cdK t52 (bV (aBin Ty .add 3 t45 (.int .i64 1)) fun t53 =>
  j3 t36 t37 t38 t53 t40 h9)
  (j3 t36 t37 t38 t39 t45 h9)))))
  (lpK (Value → Value → Value → H → Rz) (fun _ _ _ _ => none) (fun j4 => fun t54 t55 t56 h10 =>
  bV (aBin Ty .gtr 3 t56 t55) fun t57 =>
  cdK t57 (lwK h10 (bV (aBin Ty .sub 3 t56 (.int .i64 1)) fun t58 =>
  bV (aBin Ty .sub 3 t56 (.int .i64 1)) fun t59 =>
  bV (aIndexAddr Ty 168 t54 t59) fun t60 =>
  psK h10 [t60] (bV (ld ty159 h10 t60) fun t61 =>
  bV (aIndexAddr Ty 168 t54 t56) fun t62 =>
  psK h10 [t62] (bV (ld ty159 h10 t62) fun t63 =>
  bV (aIndexAddr Ty 168 t54 t56) fun t64 =>
  psK h10 [t64] (bH (st ty159 h10 t64 t61) fun h11 =>
  bV (aIndexAddr Ty 168 t54 t58) fun t65 =>
  psK h11 [t65] (bH (st ty159 h11 t65 t63) fun h12 =>
  bV (aBin Ty .sub 3 t56 (.int .i64 1)) fun t66 =>
  j4 t54 t55 t66 h12))))))
  (some (.tuple #[], h10))) NN t36 t39 t37 h7)) NN a0 a2 a4 a1 a2 h0)
  (bV (aBin Ty .add 3 a1 a3) fun t67 =>
  bV (aConv Ty 135 t67) fun t68 =>
  bV (aBin Ty .shr 135 t68 (.int .u64 1)) fun t69 =>
  bV (aConv Ty 3 t69) fun t70 =>
  bV (aBin Ty .add 3 t70 a2) fun t71 =>
  jn (Value → Value → Value → Value → Value → Value → Value → Value → Value → H → Rz) (fun t72 t73 t74 t75 t76 t77 t78 t79 t80 h13 =>
  bV (aBin Ty .sub 3 t78 (.int .i64 1)) fun t81 =>
  lpK (Value → Value → Value → Value → Value → Value → Value → Value → Value → Value → H → Rz) (fun _ _ _ _ _ _ _ _ _ _ _ => none) (fun j6 => fun t82 t83 t84 t85 t86 t87 t88 t89 t90 t91 h14 =>
  bV (aBin Ty .lss 3 t89 t90) fun t92 =>
  cdK t92 (bV (aBin Ty .add 3 t89 t90) fun t93 =>
  bV (aConv Ty 135 t93) fun t94 =>
  bV (aBin Ty .shr 135 t94 (.int .u64 1)) fun t95 =>
  bV (aConv Ty 3 t95) fun t96 =>
  lwK h14 (bV (aBin Ty .sub 3 t91 t96) fun t97 =>
  bV (aIndexAddr Ty 168 t82 t97) fun t98 =>
  psK h14 [t98] (bV (ld ty159 h14 t98) fun t99 =>
  bV (aIndexAddr Ty 168 t82 t96) fun t100 =>
  psK h14 [t100] (bV (ld ty159 h14 t100) fun t101 =>
  dyD F t86 [t99, t101] h14 [] fun t102 h15 h16 =>
  bV (aBin Ty .lss 3 t102 (.int .i64 0)) fun t103 =>
  bV (aUn .not t103) fun t104 =>
  cdK t104 (bV (aBin Ty .add 3 t96 (.int .i64 1)) fun t105 =>
  j6 t82 t83 t84 t85 t86 t87 t88 t105 t90 t91 h16)
  (j6 t82 t83 t84 t85 t86 t87 t88 t89 t96 t91 h16)))))
  (bV (aBin Ty .sub 3 t88 t89) fun t106 =>
  jn (Value → Value → Value → Value → Value → Value → Value → H → Rz) (fun t107 t108 t109 t110 t111 t112 t113 h17 =>
  jn (Value → Value → Value → Value → Value → H → Rz) (fun t114 t115 t116 t117 t118 h18 =>
  bV (aBin Ty .lss 3 t117 t118) fun t119 =>
  guardV t119 true (fun k => k t118 h18) h18 fun t120 h19 =>
  guardV t119 true (fun k => k t115 h19) h19 fun t121 h20 =>
  guardV t119 true (fun k => bV (aBin Ty .lss 3 t120 t121) fun t123 =>
  k t123 h20) h20 fun t122 h21 =>
  pickK t119 t122 (.bool false) fun t124 =>
  cdK t124 (bVH (F 259 [t114, t117, t118, t115, t116] h21) fun t125 h22 =>
  some (.tuple #[], h22))
  (some (.tuple #[], h21))) fun j8 =>
  bV (aBin Ty .lss 3 t108 t112) fun t126 =>
  guardV t126 true (fun k => k t112 h17) h17 fun t127 h23 =>
  guardV t126 true (fun k => k t111 h23) h23 fun t128 h24 =>
  guardV t126 true (fun k => bV (aBin Ty .lss 3 t127 t128) fun t130 =>
  k t130 h24) h24 fun t129 h25 =>
  pickK t126 t129 (.bool false) fun t131 =>
  cdK t131 (bVH (F 259 [t107, t108, t112, t111, t110] h25) fun t132 h26 =>
  j8 t107 t109 t110 t111 t113 h26)
  (j8 t107 t109 t110 t111 t113 h25)) fun j7 =>
  bV (aBin Ty .lss 3 t89 t84) fun t133 =>
  guardV t133 true (fun k => k t84 h14) h14 fun t134 h27 =>
  guardV t133 true (fun k => k t106 h27) h27 fun t135 h28 =>
  guardV t133 true (fun k => bV (aBin Ty .lss 3 t134 t135) fun t137 =>
  k t137 h28) h28 fun t136 h29 =>
  pickK t133 t136 (.bool false) fun t138 =>
  cdK t138 (bVH (F 269 [t82, t89, t84, t106, t86] h29) fun t139 h30 =>
  j7 t82 t83 t85 t86 t87 t89 t106 h30)
  (j7 t82 t83 t85 t86 t87 t89 t106 h29))) NN t72 t73 t74 t75 t76 t77 t78 t79 t80 t81 h13) fun j5 =>
  bV (aBin Ty .gtr 3 a2 t70) fun t140 =>
  cdK t140 (bV (aBin Ty .sub 3 t71 a3) fun t141 =>
  j5 a0 a1 a2 a3 a4 t70 t71 t141 t70 h0)
  (j5 a0 a1 a2 a3 a4 t70 t71 a1 a2 h0)))
theorem e259 (F : FK) (a0 : Value) (a1 : Value) (a2 : Value) (a3 : Value) (a4 : Value) (h : H) : runK Ty F (lvT 259) (jvT 259) NN FU Go.Proofs.Tryz.f259 [a0, a1, a2, a3, a4] h = F259 F a0 a1 a2 a3 a4 h := by kernel_rfl
def F260 (F : FK) (a0 : Value) (a1 : Value) (h0 : H) : Rz :=
  cdK (.bool false) (bV (aConv Ty 54 a0) fun t1 =>
  bV (aConv Ty 54 a1) fun t2 =>
  bVH (F 270 [t1, t2] h0) fun t3 h1 =>
  bV (aExtract t3 0) fun t4 =>
  bV (aExtract t3 1) fun t5 =>
  bV (aConv Ty 135 t4) fun t6 =>
  bV (aConv Ty 135 t5) fun t7 =>
  some (.tuple #[t6, t7], h1))
  (bVH (F 271 [a0, a1] h0) fun t8 h2 =>
  bV (aExtract t8 0) fun t9 =>
  bV (aExtract t8 1) fun t10 =>
  some (.tuple #[t9, t10], h2))
theorem e260 (F : FK) (a0 : Value) (a1 : Value) (h : H) : runK Ty F (lvT 260) (jvT 260) NN FU Go.Proofs.Tryz.f260 [a0, a1] h = F260 F a0 a1 h := by kernel_rfl
def F261 (F : FK) (a0 : Value) (h0 : H) : Rz :=
  bV (aBin Ty .shr 54 a0 (.int .u64 24)) fun t1 =>
  bV (aConv Ty 5 t1) fun t2 =>
  bV (aBin Ty .shr 54 a0 (.int .u64 16)) fun t3 =>
  bV (aConv Ty 5 t3) fun t4 =>
  bV (aBin Ty .shr 54 a0 (.int .u64 8)) fun t5 =>
  bV (aConv Ty 5 t5) fun t6 =>
  bV (aConv Ty 5 a0) fun t7 =>
  bVH (aBuildSlice Ty h0 22 4 [(0, t2), (1, t4), (2, t6), (3, t7)]) fun t8 h1 =>
  some (t8, h1)
theorem e261 (F : FK) (a0 : Value) (h : H) : runK Ty F (lvT 261) (jvT 261) NN FU Go.Proofs.Tryz.f261 [a0] h = F261 F a0 h := by kernel_rfl
def F262 (F : FK) (a0 : Value) (h0 : H) : Rz :=
  bV (aLen Ty h0 22 a0) fun t1 =>
  lpK (Value → Value → Value → Value → H → Rz) (fun _ _ _ _ _ => none) (fun j1 => fun t2 t3 t4 t5 h1 =>
  bV (aBin Ty .lss 3 t5 t4) fun t6 =>
  cdK t6 (bV (aIndexAddr Ty 22 t3 t5) fun t7 =>
  bV (ld ty5 h1 t7) fun t8 =>
  bVH (F 272 [t2, t8] h1) fun t9 h2 =>
  bV (aBin Ty .add 3 t5 (.int .i64 1)) fun t10 =>
  j1 t9 t3 t4 t10 h2)
  (bV (aImag t2) fun t11 =>
  bV (aConv Ty 54 t11) fun t12 =>
  bV (aBin Ty .mul 54 t12 (.int .u32 65536)) fun t13 =>
  bV (aReal t2) fun t14 =>
  bV (aConv Ty 54 t14) fun t15 =>
  bV (aBin Ty .add 54 t13 t15) fun t16 =>
  some (t16, h1))) NN (.complex .f64 4607182418800017408 0) a0 t1 (.int .i64 0) h0
theorem e262 (F : FK) (a0 : Value) (h : H) : runK Ty F (lvT 262) (jvT 262) NN FU Go.Proofs.Tryz.f262 [a0] h = F262 F a0 h := by kernel_rfl
def F263 (F : FK) (a0 : Value) (h0 : H) : Rz :=
  bV (aLen Ty h0 22 a0) fun t1 =>
  bV (aBin Ty .sub 3 (.int .i64 60) t1) fun t2 =>
  bVH (aAppend Ty h0 22 3 a0 t2) fun t3 h1 =>
  bVH (F 262 [t3] h1) fun t4 h2 =>
  bVH (F 264 [t3, t4, (.int .i64 4)] h2) fun t5 h3 =>
  some (t5, h3)
theorem e263 (F : FK) (a0 : Value) (h : H) : runK Ty F (lvT 263) (jvT 263) NN FU Go.Proofs.Tryz.f263 [a0] h = F263 F a0 h := by kernel_rfl
def F264 (F : FK) (a0 : Value) (a1 : Value) (a2 : Value) (h0 : H) : Rz :=
  bV (aBin Ty .sub 3 a2 (.int .i64 1)) fun t1 =>
  lpK (Value → Value → Value → H → Rz) (fun _ _ _ _ => none) (fun j1 => fun t2 t3 t4 h1 =>
  bV (aBin Ty .geq 3 t4 (.int .i64 0)) fun t5 =>
  cdK t5 (bV (aBin Ty .mul 3 (.int .i64 8) t4) fun t6 =>
  bV (aBin Ty .shr 54 t3 t6) fun t7 =>
  bV (aConv Ty 5 t7) fun t8 =>
  bVH (aBuildSlice Ty h1 22 1 [(0, t8)]) fun t9 h2 =>
  bVH (aAppend Ty h2 22 22 t2 t9) fun t10 h3 =>
  bV (aBin Ty .sub 3 t4 (.int .i64 1)) fun t11 =>
  j1 t10 t3 t11 h3)
  (some (t2, h1))) NN a0 a1 t1 h0
theorem e264 (F : FK) (a0 : Value) (a1 : Value) (a2 : Value) (h : H) : runK Ty F (lvT 264) (jvT 264) NN FU Go.Proofs.Tryz.f264 [a0, a1, a2] h = F264 F a0 a1 a2 h := by kernel_rfl
def F268 (F : FK) (a0 : Value) (h0 : H) : Rz :=
  bV (aBin Ty .lss 21 a0 (.int .i32 33)) fun t1 =>
  guardV t1 false (fun k => k a0 h0) h0 fun t2 h1 =>
  guardV t1 false (fun k => bV (aBin Ty .gtr 21 t2 (.int .i32 126)) fun t4 =>
  k t4 h1) h1 fun t3 h2 =>
  pickK t1 (.bool true) t3 fun t5 =>
  some (t5, h2)
theorem e268 (F : FK) (a0 : Value) (h : H) : runK Ty F (lvT 268) (jvT 268) NN FU Go.Proofs.Tryz.f268 [a0] h = F268 F a0 h := by kernel_rfl
def F269 (F : FK) (a0 : Value) (a1 : Value) (a2 : Value) (a3 : Value) (a4 : Value) (h0 : H) : Rz :=
  bV (aBin Ty .sub 3 a2 a1) fun t1 =>
  bV (aBin Ty .sub 3 a3 a2) fun t2 =>
  lpK (Value → Value → Value → Value → Value → H → Rz) (fun _ _ _ _ _ _ => none) (fun j1 => fun t3 t4 t5 t6 t7 h1 =>
  bV (aBin Ty .neq 3 t6 t7) fun t8 =>
  cdK t8 (bV (aBin Ty .gtr 3 t6 t7) fun t9 =>
  cdK t9 (bV (aBin Ty .sub 3 t4 t6) fun t10 =>
  bVH (F 284 [t3, t10, t4, t7, t5] h1) fun t11 h2 =>
  bV (aBin Ty .sub 3 t6 t7) fun t12 =>
  j1 t3 t4 t5 t12 t7 h2)
  (bV (aBin Ty .sub 3 t4 t6) fun t13 =>
  bV (aBin Ty .add 3 t4 t7) fun t14 =>
  bV (aBin Ty .sub 3 t14 t6) fun t15 =>
  bVH (F 284 [t3, t13, t15, t6, t5] h1) fun t16 h3 =>
  bV (aBin Ty .sub 3 t7 t6) fun t17 =>
  j1 t3 t4 t5 t6 t17 h3))
  (bV (aBin Ty .sub 3 t4 t6) fun t18 =>
  bVH (F 284 [t3, t18, t4, t6, t5] h1) fun t19 h4 =>
  some (.tuple #[], h4))) NN a0 a2 a4 t1 t2 h0
theorem e269 (F : FK) (a0 : Value) (a1 : Value) (a2 : Value) (a3 : Value) (a4 : Value) (h : H) : runK Ty F (lvT 269) (jvT 269) NN FU Go.Proofs.Tryz.f269 [a0, a1, a2, a3, a4] h = F269 F a0 a1 a2 a3 a4 h := by kernel_rfl
def F270 (F : FK) (a0 : Value) (a1 : Value) (h0 : H) : Rz :=
  bV (aConv Ty 122 a0) fun t1 =>
  bV (aConv Ty 122 a1) fun t2 =>
  bV (aBin Ty .mul 122 t1 t2) fun t3 =>
  bV (aBin Ty .shr 122 t3 (.int .u64 32)) fun t4 =>
  bV (aConv Ty 54 t4) fun t5 =>
  bV (aConv Ty 54 t3) fun t6 =>
  some (.tuple #[t5, t6], h0)
theorem e270 (F : FK) (a0 : Value) (a1 : Value) (h : H) : runK Ty F (lvT 270) (jvT 270) NN FU Go.Proofs.Tryz.f270 [a0, a1] h = F270 F a0 a1 h := by kernel_rfl
def F271 (F : FK) (a0 : Value) (a1 : Value) (h0 : H) : Rz :=
  bV (aBin Ty .and 122 a0 (.int .u64 4294967295)) fun t1 =>
  bV (aBin Ty .shr 122 a0 (.int .u64 32)) fun t2 =>
  bV (aBin Ty .and 122 a1 (.int .u64 4294967295)) fun t3 =>
  bV (aBin Ty .shr 122 a1 (.int .u64 32)) fun t4 =>
  bV (aBin Ty .mul 122 t1 t3) fun t5 =>
  bV (aBin Ty .mul 122 t2 t3) fun t6 =>
  bV (aBin Ty .shr 122 t5 (.int .u64 32)) fun t7 =>
  bV (aBin Ty .add 122 t6 t7) fun t8 =>
  bV (aBin Ty .and 122 t8 (.int .u64 4294967295)) fun t9 =>
  bV (aBin Ty .shr 122 t8 (.int .u64 32)) fun t10 =>
  bV (aBin Ty .mul 122 t1 t4) fun t11 =>
  bV (aBin Ty .add 122 t9 t11) fun t12 =>
  bV (aBin Ty .mul 122 t2 t4) fun t13 =>
  bV (aBin Ty .add 122 t13 t10) fun t14 =>
  bV (aBin Ty .shr 122 t12 (.int .u64 32)) fun t15 =>
  bV (aBin Ty .add 122 t14 t15) fun t16 =>
  bV (aBin Ty .mul 122 a0 a1) fun t17 =>
  some (.tuple #[t16, t17], h0)
theorem e271 (F : FK) (a0 : Value) (a1 : Value) (h : H) : runK Ty F (lvT 271) (jvT 271) NN FU Go.Proofs.Tryz.f271 [a0, a1] h = F271 F a0 a1 h := by kernel_rfl
def F272 (F : FK) (a0 : Value) (a1 : Value) (h0 : H) : Rz :=
  bV (aReal a0) fun t1 =>
  bV (aConv Ty 3 t1) fun t2 =>
  bV (aConv Ty 3 a1) fun t3 =>
  bV (aBin Ty .add 3 t2 t3) fun t4 =>
  bV (aBin Ty .rem 3 t4 (.int .i64 65521)) fun t5 =>
  bV (aConv Ty 203 t5) fun t6 =>
  bV (aImag a0) fun t7 =>
  bV (aConv Ty 3 t7) fun t8 =>
  bV (aBin Ty .add 3 t8 t5) fun t9 =>
  bV (aBin Ty .rem 3 t9 (.int .i64 65521)) fun t10 =>
  bV (aConv Ty 203 t10) fun t11 =>
  bV (aComplex t6 t11) fun t12 =>
  some (t12, h0)
theorem e272 (F : FK) (a0 : Value) (a1 : Value) (h : H) : runK Ty F (lvT 272) (jvT 272) NN FU Go.Proofs.Tryz.f272 [a0, a1] h = F272 F a0 a1 h := by kernel_rfl
def F284 (F : FK) (a0 : Value) (a1 : Value) (a2 : Value) (a3 : Value) (a4 : Value) (h0 : H) : Rz :=
  lpK (Value → Value → Value → Value → Value → H → Rz) (fun _ _ _ _ _ _ => none) (fun j1 => fun t1 t2 t3 t4 t5 h1 =>
  bV (aBin Ty .lss 3 t5 t4) fun t6 =>
  cdK t6 (lwK h1 (bV (aBin Ty .add 3 t2 t5) fun t7 =>
  bV (aBin Ty .add 3 t3 t5) fun t8 =>
  bV (aBin Ty .add 3 t3 t5) fun t9 =>
  bV (aIndexAddr Ty 168 t1 t9) fun t10 =>
  psK h1 [t10] (bV (ld ty159 h1 t10) fun t11 =>
  bV (aBin Ty .add 3 t2 t5) fun t12 =>
  bV (aIndexAddr Ty 168 t1 t12) fun t13 =>
  psK h1 [t13] (bV (ld ty159 h1 t13) fun t14 =>
  bV (aIndexAddr Ty 168 t1 t7) fun t15 =>
  psK h1 [t15] (bH (st ty159 h1 t15 t11) fun h2 =>
  bV (aIndexAddr Ty 168 t1 t8) fun t16 =>
  psK h2 [t16] (bH (st ty159 h2 t16 t14) fun h3 =>
  bV (aBin Ty .add 3 t5 (.int .i64 1)) fun t17 =>
  j1 t1 t2 t3 t4 t17 h3))))))
  (some (.tuple #[], h1))) NN a0 a1 a2 a3 (.int .i64 0) h0
theorem e284 (F : FK) (a0 : Value) (a1 : Value) (a2 : Value) (a3 : Value) (a4 : Value) (h : H) : runK Ty F (lvT 284) (jvT 284) NN FU Go.Proofs.Tryz.f284 [a0, a1, a2, a3, a4] h = F284 F a0 a1 a2 a3 a4 h := by kernel_rfl
end
end Go.Ab.Tryz
