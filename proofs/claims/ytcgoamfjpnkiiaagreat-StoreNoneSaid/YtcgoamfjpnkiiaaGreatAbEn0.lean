/- Functions without frames, each equal to the machine in passing style over its text (printed). Conditions: none. -/
import Derived.Test.YtcgoamfjpnkiiaaGreatAbLv
import Derived.Test.YtcgoamfjpnkiiaaGreatAbZg
set_option linter.all false
namespace Go.Ab.Tryz
noncomputable section
open Tr
def F11 (F : FK) (a0 : Value) (a1 : Value) (h0 : H) : Rz :=
  bxK 56 a0 h0 fun t1 h1 =>
  bVH (F 14 [] h1) fun t2 h2 =>
  bV (aUn .not t2) fun t3 =>
  cdK t3 (some ((.bool false), h2))
  (bV (aLen Ty h2 9 a1) fun t4 =>
  bV (aBin Ty .gtr 3 t4 (.int .i64 40)) fun t5 =>
  cdK t5 (some ((.bool true), h2))
  (bV (ld ty56 h2 t1) fun t6 =>
  bVH (F 25 [(.pointer none), t6, a1, (.int .i64 1), (.string ⟨#[]⟩)] h2) fun t7 h3 =>
  bV (aExtract t7 0) fun t8 =>
  bV (aExtract t7 1) fun t9 =>
  alK 56 ty56 h3 fun t10 h4 =>
  bH (st ty56 h4 t10 t8) fun h5 =>
  bV (ld ty56 h5 t1) fun t11 =>
  bVH (F 35 [(.pointer none), t11, (.int .i64 0), (.int .i64 1)] h5) fun t12 h6 =>
  bV (aExtract t12 0) fun t13 =>
  bV (aExtract t12 1) fun t14 =>
  bV (ld ty56 h6 t1) fun t15 =>
  bVH (F 32 [(.pointer none), t15, (.int .i64 0), (.slice none 0 0)] h6) fun t16 h7 =>
  bV (aExtract t16 0) fun t17 =>
  bV (aExtract t16 1) fun t18 =>
  bV (ld ty56 h7 t1) fun t19 =>
  bVH (F 31 [(.pointer none), t19] h7) fun t20 h8 =>
  bV (aExtract t20 0) fun t21 =>
  bV (aExtract t20 1) fun t22 =>
  bV (aExtract t20 2) fun t23 =>
  alK 75 ty75 h8 fun t24 h9 =>
  bH (st ty75 h9 t24 t22) fun h10 =>
  bV (ld ty56 h10 t1) fun t25 =>
  bVH (F 27 [(.pointer none), t25, a1] h10) fun t26 h11 =>
  bV (aExtract t26 0) fun t27 =>
  bV (aExtract t26 1) fun t28 =>
  alK 56 ty56 h11 fun t29 h12 =>
  bH (st ty56 h12 t29 t27) fun h13 =>
  bVH (F 42 [(.pointer none)] h13) fun t30 h14 =>
  bVH (F 43 [(.pointer none)] h14) fun t31 h15 =>
  bV (aBin Ty .eql 46 t9 (.int .i64 1)) fun t32 =>
  guardV t32 true (fun k => k (.pointer none) h15) h15 fun t33 h16 =>
  guardV t32 true (fun k => bV (ld ty56 h16 t1) fun t35 =>
  k t35 h16) h16 fun t34 h17 =>
  guardV t32 true (fun k => k a1 h17) h17 fun t36 h18 =>
  guardV t32 true (fun k => bV (ld ty56 h18 t1) fun t38 =>
  k t38 h18) h18 fun t37 h19 =>
  guardV t32 true (fun k => bVH (F 29 [t33, t34, t36, t37] h19) fun t40 h21 =>
  k t40 h21) h19 fun t39 h20 =>
  guardV t32 true (fun k => bV (aBin Ty .eql 46 t39 (.int .i64 1)) fun t42 =>
  k t42 h20) h20 fun t41 h22 =>
  pickK t32 t41 (.bool false) fun t43 =>
  guardV t43 true (fun k => k (.pointer none) h22) h22 fun t44 h23 =>
  guardV t43 true (fun k => bV (ld ty56 h23 t1) fun t46 =>
  k t46 h23) h23 fun t45 h24 =>
  guardV t43 true (fun k => k a1 h24) h24 fun t47 h25 =>
  guardV t43 true (fun k => bVH (F 30 [t44, t45, t47, (.bool true)] h25) fun t49 h27 =>
  k t49 h27) h25 fun t48 h26 =>
  guardV t43 true (fun k => bV (aBin Ty .eql 46 t48 (.int .i64 1)) fun t51 =>
  k t51 h26) h26 fun t50 h28 =>
  pickK t43 t50 (.bool false) fun t52 =>
  guardV t52 true (fun k => k (.pointer none) h28) h28 fun t53 h29 =>
  guardV t52 true (fun k => bV (ld ty56 h29 t1) fun t55 =>
  k t55 h29) h29 fun t54 h30 =>
  guardV t52 true (fun k => k a1 h30) h30 fun t56 h31 =>
  guardV t52 true (fun k => bVH (F 44 [t53, t54, t56] h31) fun t58 h33 =>
  k t58 h33) h31 fun t57 h32 =>
  guardV t52 true (fun k => bV (aBin Ty .eql 46 t57 (.int .i64 1)) fun t60 =>
  k t60 h32) h32 fun t59 h34 =>
  pickK t52 t59 (.bool false) fun t61 =>
  guardV t61 true (fun k => k (.pointer none) h34) h34 fun t62 h35 =>
  guardV t61 true (fun k => bV (ld ty56 h35 t1) fun t64 =>
  k t64 h35) h35 fun t63 h36 =>
  guardV t61 true (fun k => k a1 h36) h36 fun t65 h37 =>
  guardV t61 true (fun k => bV (ld ty56 h37 t1) fun t67 =>
  k t67 h37) h37 fun t66 h38 =>
  guardV t61 true (fun k => k a1 h38) h38 fun t68 h39 =>
  guardV t61 true (fun k => bVH (F 34 [t62, t63, t65, t66, t68, (.bool false)] h39) fun t70 h41 =>
  k t70 h41) h39 fun t69 h40 =>
  guardV t61 true (fun k => bV (aBin Ty .eql 46 t69 (.int .i64 1)) fun t72 =>
  k t72 h40) h40 fun t71 h42 =>
  pickK t61 t71 (.bool false) fun t73 =>
  guardV t73 true (fun k => k (.pointer none) h42) h42 fun t74 h43 =>
  guardV t73 true (fun k => bV (ld ty56 h43 t1) fun t76 =>
  k t76 h43) h43 fun t75 h44 =>
  guardV t73 true (fun k => bVH (F 36 [t74, t75] h44) fun t78 h46 =>
  k t78 h46) h44 fun t77 h45 =>
  guardV t73 true (fun k => bV (aBin Ty .eql 46 t77 (.int .i64 1)) fun t80 =>
  k t80 h45) h45 fun t79 h47 =>
  pickK t73 t79 (.bool false) fun t81 =>
  guardV t81 true (fun k => k t14 h47) h47 fun t82 h48 =>
  guardV t81 true (fun k => bV (aBin Ty .eql 46 t82 (.int .i64 1)) fun t84 =>
  k t84 h48) h48 fun t83 h49 =>
  pickK t81 t83 (.bool false) fun t85 =>
  guardV t85 true (fun k => k t18 h49) h49 fun t86 h50 =>
  guardV t85 true (fun k => bV (aBin Ty .eql 46 t86 (.int .i64 1)) fun t88 =>
  k t88 h50) h50 fun t87 h51 =>
  pickK t85 t87 (.bool false) fun t89 =>
  guardV t89 true (fun k => k (.pointer none) h51) h51 fun t90 h52 =>
  guardV t89 true (fun k => bV (ld ty56 h52 t1) fun t92 =>
  k t92 h52) h52 fun t91 h53 =>
  guardV t89 true (fun k => bVH (F 45 [t90, t91, (.int .i64 0)] h53) fun t94 h55 =>
  k t94 h55) h53 fun t93 h54 =>
  guardV t89 true (fun k => bV (aBin Ty .eql 46 t93 (.int .i64 1)) fun t96 =>
  k t96 h54) h54 fun t95 h56 =>
  pickK t89 t95 (.bool false) fun t97 =>
  guardV t97 true (fun k => k t23 h56) h56 fun t98 h57 =>
  guardV t97 true (fun k => bV (aUn .not t98) fun t100 =>
  k t100 h57) h57 fun t99 h58 =>
  pickK t97 t99 (.bool false) fun t101 =>
  guardV t101 true (fun k => k t28 h58) h58 fun t102 h59 =>
  guardV t101 true (fun k => bV (aUn .not t102) fun t104 =>
  k t104 h59) h59 fun t103 h60 =>
  pickK t101 t103 (.bool false) fun t105 =>
  guardV t105 true (fun k => k (.pointer none) h60) h60 fun t106 h61 =>
  guardV t105 true (fun k => bV (ld ty56 h61 t1) fun t108 =>
  k t108 h61) h61 fun t107 h62 =>
  guardV t105 true (fun k => bVH (F 26 [t106, t107] h62) fun t110 h64 =>
  k t110 h64) h62 fun t109 h63 =>
  guardV t105 true (fun k => bV (aLen Ty h63 64 t109) fun t112 =>
  k t112 h63) h63 fun t111 h65 =>
  guardV t105 true (fun k => bV (aBin Ty .eql 3 t111 (.int .i64 0)) fun t114 =>
  k t114 h65) h65 fun t113 h66 =>
  pickK t105 t113 (.bool false) fun t115 =>
  guardV t115 true (fun k => k (.pointer none) h66) h66 fun t116 h67 =>
  guardV t115 true (fun k => bVH (F 28 [t116] h67) fun t118 h69 =>
  k t118 h69) h67 fun t117 h68 =>
  guardV t115 true (fun k => bV (aBin Ty .eql 3 t117 (.int .i64 0)) fun t120 =>
  k t120 h68) h68 fun t119 h70 =>
  pickK t115 t119 (.bool false) fun t121 =>
  guardV t121 true (fun k => k (.pointer none) h70) h70 fun t122 h71 =>
  guardV t121 true (fun k => bVH (F 33 [t122] h71) fun t124 h73 =>
  k t124 h73) h71 fun t123 h72 =>
  guardV t121 true (fun k => bV (aLen Ty h72 41 t123) fun t126 =>
  k t126 h72) h72 fun t125 h74 =>
  guardV t121 true (fun k => bV (aBin Ty .eql 3 t125 (.int .i64 0)) fun t128 =>
  k t128 h74) h74 fun t127 h75 =>
  pickK t121 t127 (.bool false) fun t129 =>
  some (t129, h75)))
theorem e11 (F : FK) (a0 : Value) (a1 : Value) (h : H) : runK Ty F (lvT 11) (jvT 11) NN FU Go.Proofs.Tryz.f11 [a0, a1] h = F11 F a0 a1 h := by kernel_rfl
def F14 (F : FK) (h0 : H) : Rz :=
  bVH (aBuildSlice Ty h0 87 1 [(0, (.int .i64 30))]) fun t1 h1 =>
  bVH (F 49 [t1] h1) fun t2 h2 =>
  bV (aExtract t2 0) fun t3 =>
  bV (aExtract t2 1) fun t4 =>
  bV (aBuild Ty 28 [(1, (.int .i64 8)), (2, (.int .i64 16)), (3, (.int .i64 2))]) fun t5 =>
  alK 28 ty28 h2 fun t6 h3 =>
  bH (st ty28 h3 t6 t5) fun h4 =>
  bV (aUn .not t4) fun t7 =>
  guardV t7 false (fun k => k t3 h4) h4 fun t8 h5 =>
  guardV t7 false (fun k => bV (ld ty28 h5 t6) fun t10 =>
  k t10 h5) h5 fun t9 h6 =>
  guardV t7 false (fun k => bVH (F 50 [t8, (.int .i64 0), t9] h6) fun t12 h8 =>
  k t12 h8) h6 fun t11 h7 =>
  guardV t7 false (fun k => bV (aUn .not t11) fun t14 =>
  k t14 h7) h7 fun t13 h9 =>
  pickK t7 (.bool true) t13 fun t15 =>
  cdK t15 (some ((.bool false), h9))
  (bV (ld ty28 h9 t6) fun t16 =>
  bVH (F 21 [t3, (.int .i64 0), t16] h9) fun t17 h10 =>
  bV (aExtract t17 0) fun t18 =>
  bV (aExtract t17 1) fun t19 =>
  bV (aBin Ty .neq 46 t19 (.int .i64 0)) fun t20 =>
  guardV t20 false (fun k => k t18 h10) h10 fun t21 h11 =>
  guardV t20 false (fun k => bV (aBin Ty .eql 29 t21 (.pointer none)) fun t23 =>
  k t23 h11) h11 fun t22 h12 =>
  pickK t20 (.bool true) t22 fun t24 =>
  cdK t24 (some ((.bool false), h12))
  (bVH (F 24 [] h12) fun t25 h13 =>
  bVH (F 25 [t18, t25, (.string ⟨#[97]⟩), (.int .i64 1), (.string ⟨#[]⟩)] h13) fun t26 h14 =>
  bV (aExtract t26 0) fun t27 =>
  bV (aExtract t26 1) fun t28 =>
  alK 56 ty56 h14 fun t29 h15 =>
  bH (st ty56 h15 t29 t27) fun h16 =>
  bV (ld ty56 h16 t29) fun t30 =>
  bVH (aBuildSlice Ty h16 22 2 [(0, (.int .u8 104)), (1, (.int .u8 105))]) fun t31 h17 =>
  bVH (cvK Ty 22 22 t31 h17) fun t32 h18 =>
  bVH (F 32 [t18, t30, (.int .i64 0), t32] h18) fun t33 h19 =>
  bV (aExtract t33 0) fun t34 =>
  bV (aExtract t33 1) fun t35 =>
  bV (ld ty56 h19 t29) fun t36 =>
  bVH (F 35 [t18, t36, (.int .i64 0), (.int .i64 9)] h19) fun t37 h20 =>
  bV (aExtract t37 0) fun t38 =>
  bV (aExtract t37 1) fun t39 =>
  bVH (F 24 [] h20) fun t40 h21 =>
  bVH (F 27 [t18, t40, (.string ⟨#[97]⟩)] h21) fun t41 h22 =>
  bV (aExtract t41 0) fun t42 =>
  bV (aExtract t41 1) fun t43 =>
  alK 56 ty56 h22 fun t44 h23 =>
  bH (st ty56 h23 t44 t42) fun h24 =>
  bVH (F 24 [] h24) fun t45 h25 =>
  bVH (F 26 [t18, t45] h25) fun t46 h26 =>
  bVH (F 24 [] h26) fun t47 h27 =>
  bVH (F 30 [t18, t47, (.string ⟨#[97]⟩), (.bool false)] h27) fun t48 h28 =>
  bV (aBin Ty .eql 46 t28 (.int .i64 0)) fun t49 =>
  guardV t49 true (fun k => bV (fa 1 t29) fun t51 =>
  k t51 h28) h28 fun t50 h29 =>
  guardV t49 true (fun k => bV (ld ty3 h29 t50) fun t53 =>
  k t53 h29) h29 fun t52 h30 =>
  guardV t49 true (fun k => bV (aBin Ty .eql 3 t52 (.int .i64 1)) fun t55 =>
  k t55 h30) h30 fun t54 h31 =>
  pickK t49 t54 (.bool false) fun t56 =>
  guardV t56 true (fun k => k t35 h31) h31 fun t57 h32 =>
  guardV t56 true (fun k => bV (aBin Ty .eql 46 t57 (.int .i64 0)) fun t59 =>
  k t59 h32) h32 fun t58 h33 =>
  pickK t56 t58 (.bool false) fun t60 =>
  guardV t60 true (fun k => k t34 h33) h33 fun t61 h34 =>
  guardV t60 true (fun k => bV (aBin Ty .eql 3 t61 (.int .i64 2)) fun t63 =>
  k t63 h34) h34 fun t62 h35 =>
  pickK t60 t62 (.bool false) fun t64 =>
  guardV t64 true (fun k => k t39 h35) h35 fun t65 h36 =>
  guardV t64 true (fun k => bV (aBin Ty .eql 46 t65 (.int .i64 0)) fun t67 =>
  k t67 h36) h36 fun t66 h37 =>
  pickK t64 t66 (.bool false) fun t68 =>
  guardV t68 true (fun k => k t38 h37) h37 fun t69 h38 =>
  guardV t68 true (fun k => bVH (cvK Ty 22 9 t69 h38) fun t71 h40 =>
  k t71 h40) h38 fun t70 h39 =>
  guardV t68 true (fun k => bV (aBin Ty .eql 9 t70 (.string ⟨#[104, 105]⟩)) fun t73 =>
  k t73 h39) h39 fun t72 h41 =>
  pickK t68 t72 (.bool false) fun t74 =>
  guardV t74 true (fun k => k t43 h41) h41 fun t75 h42 =>
  pickK t74 t75 (.bool false) fun t76 =>
  guardV t76 true (fun k => bV (ld ty56 h42 t44) fun t78 =>
  k t78 h42) h42 fun t77 h43 =>
  guardV t76 true (fun k => bV (ld ty56 h43 t29) fun t80 =>
  k t80 h43) h43 fun t79 h44 =>
  guardV t76 true (fun k => bV (aBin Ty .eql 56 t77 t79) fun t82 =>
  k t82 h44) h44 fun t81 h45 =>
  pickK t76 t81 (.bool false) fun t83 =>
  guardV t83 true (fun k => k t46 h45) h45 fun t84 h46 =>
  guardV t83 true (fun k => bV (aLen Ty h46 64 t84) fun t86 =>
  k t86 h46) h46 fun t85 h47 =>
  guardV t83 true (fun k => bV (aBin Ty .eql 3 t85 (.int .i64 1)) fun t88 =>
  k t88 h47) h47 fun t87 h48 =>
  pickK t83 t87 (.bool false) fun t89 =>
  guardV t89 true (fun k => k t48 h48) h48 fun t90 h49 =>
  guardV t89 true (fun k => bV (aBin Ty .eql 46 t90 (.int .i64 0)) fun t92 =>
  k t92 h49) h49 fun t91 h50 =>
  pickK t89 t91 (.bool false) fun t93 =>
  guardV t93 true (fun k => k t18 h50) h50 fun t94 h51 =>
  guardV t93 true (fun k => bVH (F 28 [t94] h51) fun t96 h53 =>
  k t96 h53) h51 fun t95 h52 =>
  guardV t93 true (fun k => bV (aBin Ty .eql 3 t95 (.int .i64 7)) fun t98 =>
  k t98 h52) h52 fun t97 h54 =>
  pickK t93 t97 (.bool false) fun t99 =>
  guardV t99 true (fun k => k t18 h54) h54 fun t100 h55 =>
  guardV t99 true (fun k => bVH (F 33 [t100] h55) fun t102 h57 =>
  k t102 h57) h55 fun t101 h56 =>
  guardV t99 true (fun k => bV (aLen Ty h56 41 t101) fun t104 =>
  k t104 h56) h56 fun t103 h58 =>
  guardV t99 true (fun k => bV (aBin Ty .eql 3 t103 (.int .i64 8)) fun t106 =>
  k t106 h58) h58 fun t105 h59 =>
  pickK t99 t105 (.bool false) fun t107 =>
  some (t107, h59)))
theorem e14 (F : FK) (h : H) : runK Ty F (lvT 14) (jvT 14) NN FU Go.Proofs.Tryz.f14 [] h = F14 F h := by kernel_rfl
def F19 (F : FK) (a0 : Value) (a1 : Value) (a2 : Value) (a3 : Value) (h0 : H) : Rz :=
  bVH (F 65 [a0, a1, a2] h0) fun t1 h1 =>
  bV (aBin Ty .eql 124 t1 (.pointer none)) fun t2 =>
  guardV t2 false (fun k => k a3 h1) h1 fun t3 h2 =>
  guardV t2 false (fun k => bV (aLen Ty h2 22 t3) fun t5 =>
  k t5 h2) h2 fun t4 h3 =>
  guardV t2 false (fun k => bV (aBin Ty .neq 3 t4 (.int .i64 64)) fun t7 =>
  k t7 h3) h3 fun t6 h4 =>
  pickK t2 (.bool true) t6 fun t8 =>
  cdK t8 (some ((.bool false), h4))
  (bV (aNilCheck a0) fun t9 =>
  bV (fa 1 t9) fun t10 =>
  bV (ld ty3 h4 t10) fun t11 =>
  bV (aBin Ty .eql 3 t11 (.int .i64 0)) fun t12 =>
  cdK t12 (some ((.bool true), h4))
  (jn (Value → Value → Value → H → Rz) (fun t13 t14 t15 h5 =>
  lwK h5 (bV (aNilCheck t15) fun t16 =>
  bV (fa 0 t16) fun t17 =>
  psK h5 [t17] (bV (ld ty100 h5 t17) fun t18 =>
  caD (F 66 [t14] (lw0 h5)) h5 [t17] fun t19 h6 h7 =>
  bV (aIndexAddr Ty 100 t18 t13) fun t20 =>
  psK h7 [t20] (bH (st ty22 h7 t20 t19) fun h8 =>
  lwK h8 (bV (aNilCheck t15) fun t21 =>
  bV (fa 2 t21) fun t22 =>
  psK h8 [t22] (bV (ld ty129 h8 t22) fun t23 =>
  bV (aNilCheck t15) fun t24 =>
  bV (fa 0 t24) fun t25 =>
  psK h8 [t25] (bV (ld ty100 h8 t25) fun t26 =>
  bV (aIndexAddr Ty 100 t26 t13) fun t27 =>
  psK h8 [t27] (bV (ld ty22 h8 t27) fun t28 =>
  bV (aBuild Ty 133 [(0, t13), (1, t28)]) fun t29 =>
  bVH (aBuildSlice Ty h8 129 1 [(0, t29)]) fun t30 h9 =>
  psK h9 [t23, t30] (bVH (aAppend Ty h9 129 129 t23 t30) fun t31 h10 =>
  bV (aNilCheck t15) fun t32 =>
  bV (fa 2 t32) fun t33 =>
  psK h10 [t33] (bH (st ty129 h10 t33 t31) fun h11 =>
  lwK h11 (bV (aNilCheck t15) fun t34 =>
  bV (fa 3 t34) fun t35 =>
  psK h11 [t35] (bV (ld ty100 h11 t35) fun t36 =>
  bV (aBin Ty .shr 3 t13 (.int .u64 8)) fun t37 =>
  bV (aConv Ty 5 t37) fun t38 =>
  bV (aConv Ty 5 t13) fun t39 =>
  bVH (aBuildSlice Ty h11 22 2 [(0, t38), (1, t39)]) fun t40 h12 =>
  bVH (aBuildSlice Ty h12 100 2 [(0, t40), (1, t14)]) fun t41 h13 =>
  caD (F 67 [t41] (lw0 h13)) h13 [t35] fun t42 h14 h15 =>
  bVH (aBuildSlice Ty h15 100 1 [(0, t42)]) fun t43 h16 =>
  psK h16 [t36, t43] (bVH (aAppend Ty h16 100 100 t36 t43) fun t44 h17 =>
  bV (aNilCheck t15) fun t45 =>
  bV (fa 3 t45) fun t46 =>
  psK h17 [t46] (bH (st ty100 h17 t46 t44) fun h18 =>
  some ((.bool true), h18))))))))))))))) fun j1 =>
  bV (aNilCheck a0) fun t47 =>
  bV (fa 1 t47) fun t48 =>
  bV (ld ty3 h4 t48) fun t49 =>
  bV (aBin Ty .gtr 3 t49 (.int .i64 0)) fun t50 =>
  cdK t50 (bV (aNilCheck a0) fun t51 =>
  bV (fa 1 t51) fun t52 =>
  bV (ld ty3 h4 t52) fun t53 =>
  bV (aBin Ty .sub 3 t53 (.int .i64 1)) fun t54 =>
  bV (aNilCheck a0) fun t55 =>
  bV (fa 1 t55) fun t56 =>
  bH (st ty3 h4 t56 t54) fun h19 =>
  j1 a2 a3 t1 h19)
  (j1 a2 a3 t1 h4)))
theorem e19 (F : FK) (a0 : Value) (a1 : Value) (a2 : Value) (a3 : Value) (h : H) : runK Ty F (lvT 19) (jvT 19) NN FU Go.Proofs.Tryz.f19 [a0, a1, a2, a3] h = F19 F a0 a1 a2 a3 h := by kernel_rfl
def F20 (F : FK) (a0 : Value) (a1 : Value) (h0 : H) : Rz :=
  bxK 28 a0 h0 fun t1 h1 =>
  bV (fa 3 t1) fun t2 =>
  bV (ld ty3 h1 t2) fun t3 =>
  bV (aBin Ty .add 3 (.int .i64 2) t3) fun t4 =>
  bV (fa 2 t1) fun t5 =>
  bV (ld ty3 h1 t5) fun t6 =>
  bVH (F 68 [t4, t6] h1) fun t7 h2 =>
  bVH (F 69 [t7, a1] h2) fun t8 h3 =>
  some (t8, h3)
theorem e20 (F : FK) (a0 : Value) (a1 : Value) (h : H) : runK Ty F (lvT 20) (jvT 20) NN FU Go.Proofs.Tryz.f20 [a0, a1] h = F20 F a0 a1 h := by kernel_rfl
def F21 (F : FK) (a0 : Value) (a1 : Value) (a2 : Value) (h0 : H) : Rz :=
  bxK 28 a2 h0 fun t1 h1 =>
  bV (ld ty28 h1 t1) fun t2 =>
  bVH (F 70 [a0, a1, t2] h1) fun t3 h2 =>
  bV (aExtract t3 0) fun t4 =>
  bV (aExtract t3 1) fun t5 =>
  bV (aBin Ty .neq 46 t5 (.int .i64 0)) fun t6 =>
  cdK t6 (some (.tuple #[(.pointer none), t5], h2))
  (bV (aBuild Ty 143 [(0, t4), (1, a1)]) fun t7 =>
  bxK 143 t7 h2 fun t8 h3 =>
  bVH (F 33 [t8] h3) fun t9 h4 =>
  bVH (F 71 [a1, t9] h4) fun t10 h5 =>
  bV (aUn .not t10) fun t11 =>
  cdK t11 (some (.tuple #[(.pointer none), (.int .i64 14)], h5))
  (bVH (F 33 [t8] h5) fun t12 h6 =>
  bV (aLen Ty h6 41 t12) fun t13 =>
  lpK (Value → Value → Value → Value → Value → H → Rz) (fun _ _ _ _ _ _ => none) (fun j1 => fun t14 t15 t16 t17 t18 h7 =>
  bV (aBin Ty .lss 3 t18 t17) fun t19 =>
  cdK t19 (jn (Value → Value → Value → Value → Value → H → Rz) (fun t20 t21 t22 t23 t24 h8 =>
  bV (aBin Ty .add 3 t24 (.int .i64 1)) fun t25 =>
  j1 t20 t21 t22 t23 t25 h8) fun j2 =>
  bV (aIndexAddr Ty 41 t16 t18) fun t26 =>
  bV (ld ty40 h7 t26) fun t27 =>
  alK 40 ty40 h7 fun t28 h9 =>
  bH (st ty40 h9 t28 t27) fun h10 =>
  bV (ld ty40 h10 t28) fun t29 =>
  bVH (F 72 [t29] h10) fun t30 h11 =>
  bV (aExtract t30 0) fun t31 =>
  bV (aExtract t30 1) fun t32 =>
  alK 75 ty75 h11 fun t33 h12 =>
  bH (st ty75 h12 t33 t31) fun h13 =>
  guardV t32 true (fun k => bV (fa 0 t28) fun t35 =>
  k t35 h13) h13 fun t34 h14 =>
  guardV t32 true (fun k => bV (ld ty3 h14 t34) fun t37 =>
  k t37 h14) h14 fun t36 h15 =>
  guardV t32 true (fun k => bV (aBin Ty .eql 3 t36 (.int .i64 1)) fun t39 =>
  k t39 h15) h15 fun t38 h16 =>
  pickK t32 t38 (.bool false) fun t40 =>
  guardV t40 true (fun k => bV (fa 1 t33) fun t42 =>
  k t42 h16) h16 fun t41 h17 =>
  guardV t40 true (fun k => bV (ld ty3 h17 t41) fun t44 =>
  k t44 h17) h17 fun t43 h18 =>
  guardV t40 true (fun k => bV (aBin Ty .eql 3 t43 (.int .i64 0)) fun t46 =>
  k t46 h18) h18 fun t45 h19 =>
  pickK t40 t45 (.bool false) fun t47 =>
  cdK t47 (bVH (F 73 [t14] h19) fun t48 h20 =>
  bVH (F 74 [t48, t18] h20) fun t49 h21 =>
  bVH (F 75 [t48] h21) fun t50 h22 =>
  j2 t14 t15 t16 t17 t18 h22)
  (j2 t14 t15 t16 t17 t18 h19))
  (some (.tuple #[t15, (.int .i64 0)], h7))) NN t4 t8 t12 t13 (.int .i64 0) h6))
theorem e21 (F : FK) (a0 : Value) (a1 : Value) (a2 : Value) (h : H) : runK Ty F (lvT 21) (jvT 21) NN FU Go.Proofs.Tryz.f21 [a0, a1, a2] h = F21 F a0 a1 a2 h := by kernel_rfl
def F24 (F : FK) (h0 : H) : Rz :=
  alK 56 ty56 h0 fun t1 h1 =>
  bV (aBuild Ty 56 [(0, (.int .i64 (-1)))]) fun t2 =>
  bH (st ty56 h1 t1 t2) fun h2 =>
  bV (ld ty56 h2 t1) fun t3 =>
  some (t3, h2)
theorem e24 (F : FK) (h : H) : runK Ty F (lvT 24) (jvT 24) NN FU Go.Proofs.Tryz.f24 [] h = F24 F h := by kernel_rfl
def F25 (F : FK) (a0 : Value) (a1 : Value) (a2 : Value) (a3 : Value) (a4 : Value) (h0 : H) : Rz :=
  bxK 56 a1 h0 fun t1 h1 =>
  alK 56 ty56 h1 fun t2 h2 =>
  bV (aBin Ty .eql 29 a0 (.pointer none)) fun t3 =>
  guardV t3 false (fun k => k a2 h2) h2 fun t4 h3 =>
  guardV t3 false (fun k => bVH (F 79 [t4] h3) fun t6 h5 =>
  k t6 h5) h3 fun t5 h4 =>
  guardV t3 false (fun k => bV (aUn .not t5) fun t8 =>
  k t8 h4) h4 fun t7 h6 =>
  pickK t3 (.bool true) t7 fun t9 =>
  guardV t9 false (fun k => bV (ld ty56 h6 t1) fun t11 =>
  k t11 h6) h6 fun t10 h7 =>
  guardV t9 false (fun k => bVH (F 80 [t10] h7) fun t13 h9 =>
  k t13 h9) h7 fun t12 h8 =>
  guardV t9 false (fun k => bV (aUn .not t12) fun t15 =>
  k t15 h8) h8 fun t14 h10 =>
  pickK t9 (.bool true) t14 fun t16 =>
  cdK t16 (bV (aBuild Ty 56 []) fun t17 =>
  bH (st ty56 h10 t2 t17) fun h11 =>
  bV (ld ty56 h11 t2) fun t18 =>
  some (.tuple #[t18, (.int .i64 1)], h11))
  (bVH (F 81 [a3, (.int .u32 1), a4] h10) fun t19 h12 =>
  bV (aExtract t19 0) fun t20 =>
  bV (aExtract t19 1) fun t21 =>
  alK 40 ty40 h12 fun t22 h13 =>
  bH (st ty40 h13 t22 t20) fun h14 =>
  bV (aUn .not t21) fun t23 =>
  cdK t23 (bV (aBuild Ty 56 []) fun t24 =>
  bH (st ty56 h14 t2 t24) fun h15 =>
  bV (ld ty56 h15 t2) fun t25 =>
  some (.tuple #[t25, (.int .i64 1)], h15))
  (bV (aNilCheck a0) fun t26 =>
  bV (fa 0 t26) fun t27 =>
  bV (ld ty139 h14 t27) fun t28 =>
  bVH (F 73 [t28] h14) fun t29 h16 =>
  bV (ld ty56 h16 t1) fun t30 =>
  bVH (F 82 [a0, t29, t30] h16) fun t31 h17 =>
  bV (aBin Ty .neq 46 t31 (.int .i64 0)) fun t32 =>
  cdK t32 (bV (aBuild Ty 56 []) fun t33 =>
  bH (st ty56 h17 t2 t33) fun h18 =>
  bV (ld ty56 h18 t2) fun t34 =>
  some (.tuple #[t34, t31], h18))
  (bV (ld ty56 h17 t1) fun t35 =>
  bVH (F 83 [t29, t35, a2] h17) fun t36 h19 =>
  bV (aExtract t36 0) fun t37 =>
  bV (aExtract t36 1) fun t38 =>
  bV (aExtract t36 2) fun t39 =>
  alK 159 ty159 h19 fun t40 h20 =>
  bH (st ty159 h20 t40 t37) fun h21 =>
  cdK t39 (bV (aBuild Ty 56 []) fun t41 =>
  bH (st ty56 h21 t2 t41) fun h22 =>
  bV (ld ty56 h22 t2) fun t42 =>
  some (.tuple #[t42, (.int .i64 4)], h22))
  (bVH (F 84 [t29] h21) fun t43 h23 =>
  bVH (F 85 [t29] h23) fun t44 h24 =>
  bV (aBin Ty .lss 3 t44 (.int .i64 2)) fun t45 =>
  guardV t45 false (fun k => k t43 h24) h24 fun t46 h25 =>
  guardV t45 false (fun k => bV (aBin Ty .eql 54 t46 (.int .u32 4294967295)) fun t48 =>
  k t48 h25) h25 fun t47 h26 =>
  pickK t45 (.bool true) t47 fun t49 =>
  cdK t49 (bV (aBuild Ty 56 []) fun t50 =>
  bH (st ty56 h26 t2 t50) fun h27 =>
  bV (ld ty56 h27 t2) fun t51 =>
  some (.tuple #[t51, (.int .i64 9)], h27))
  (bVH (F 86 [t29] h26) fun t52 h28 =>
  bV (aExtract t52 0) fun t53 =>
  bV (aExtract t52 1) fun t54 =>
  bVH (F 81 [a3, t43, a4] h28) fun t55 h29 =>
  bV (aExtract t55 0) fun t56 =>
  bV (aExtract t55 1) fun t57 =>
  alK 40 ty40 h29 fun t58 h30 =>
  bH (st ty40 h30 t58 t56) fun h31 =>
  bV (ld ty40 h31 t58) fun t59 =>
  bVH (F 87 [t29, t53, t59] h31) fun t60 h32 =>
  bV (aBin Ty .add 54 t43 (.int .u32 1)) fun t61 =>
  bVH (F 88 [t29, t61] h32) fun t62 h33 =>
  bV (ld ty56 h33 t1) fun t63 =>
  bV (aBuild Ty 159 [(0, t63), (1, a2), (2, t53), (3, t43)]) fun t64 =>
  bVH (F 89 [t29, t64] h33) fun t65 h34 =>
  jn (Value → Value → Value → Value → Value → H → Rz) (fun t66 t67 t68 t69 t70 h35 =>
  bV (aBin Ty .neq 46 t70 (.int .i64 0)) fun t71 =>
  cdK t71 (bV (aBuild Ty 56 []) fun t72 =>
  bH (st ty56 h35 t67 t72) fun h36 =>
  bV (ld ty56 h36 t67) fun t73 =>
  some (.tuple #[t73, t70], h36))
  (bV (aNilCheck t66) fun t74 =>
  bV (fa 1 t74) fun t75 =>
  bV (ld ty3 h35 t75) fun t76 =>
  bV (aBuild Ty 56 [(0, t76), (1, t69), (2, t68)]) fun t77 =>
  bH (st ty56 h35 t67 t77) fun h37 =>
  bV (ld ty56 h37 t67) fun t78 =>
  some (.tuple #[t78, (.int .i64 0)], h37))) fun j1 =>
  bV (aBin Ty .eql 46 t65 (.int .i64 0)) fun t79 =>
  cdK t79 (bVH (F 75 [t29] h34) fun t80 h38 =>
  j1 a0 t2 t43 t53 t80 h38)
  (j1 a0 t2 t43 t53 t65 h34))))))
theorem e25 (F : FK) (a0 : Value) (a1 : Value) (a2 : Value) (a3 : Value) (a4 : Value) (h : H) : runK Ty F (lvT 25) (jvT 25) NN FU Go.Proofs.Tryz.f25 [a0, a1, a2, a3, a4] h = F25 F a0 a1 a2 a3 a4 h := by kernel_rfl
def F26 (F : FK) (a0 : Value) (a1 : Value) (h0 : H) : Rz :=
  bxK 56 a1 h0 fun t1 h1 =>
  bV (aBin Ty .eql 29 a0 (.pointer none)) fun t2 =>
  cdK t2 (some ((.slice none 0 0), h1))
  (lwK h1 (bV (aNilCheck a0) fun t3 =>
  bV (fa 0 t3) fun t4 =>
  psK h1 [t4] (bV (ld ty139 h1 t4) fun t5 =>
  caD (F 73 [t5] (lw0 h1)) h1 [] fun t6 h2 h3 =>
  psK h3 [t1] (ckK [t1] [(h1, h2)] [(h1, h2)] [] (bV (ld ty56 h3 t1) fun t7 =>
  caD (F 90 [t6, t7] (lw0 h3)) h3 [] fun t8 h4 h5 =>
  bV (aLen Ty h5 168 t8) fun t9 =>
  lpK (Value → Value → Value → Value → H → Rz) (fun _ _ _ _ _ => none) (fun j1 => fun t10 t11 t12 t13 h6 =>
  bV (aBin Ty .lss 3 t13 t12) fun t14 =>
  cdK t14 (bV (aIndexAddr Ty 168 t11 t13) fun t15 =>
  bV (ld ty159 h6 t15) fun t16 =>
  alK 159 ty159 h6 fun t17 h7 =>
  bH (st ty159 h7 t17 t16) fun h8 =>
  bV (fa 3 t17) fun t18 =>
  bV (ld ty9 h8 t18) fun t19 =>
  bVH (aBuildSlice Ty h8 64 1 [(0, t19)]) fun t20 h9 =>
  bVH (aAppend Ty h9 64 64 t10 t20) fun t21 h10 =>
  bV (aBin Ty .add 3 t13 (.int .i64 1)) fun t22 =>
  j1 t21 t11 t12 t22 h10)
  (some (t10, h6))) NN (.slice none 0 0) t8 t9 (.int .i64 0) h5)))))
theorem e26 (F : FK) (a0 : Value) (a1 : Value) (h : H) : runK Ty F (lvT 26) (jvT 26) NN FU Go.Proofs.Tryz.f26 [a0, a1] h = F26 F a0 a1 h := by kernel_rfl
def F27 (F : FK) (a0 : Value) (a1 : Value) (a2 : Value) (h0 : H) : Rz :=
  bxK 56 a1 h0 fun t1 h1 =>
  alK 56 ty56 h1 fun t2 h2 =>
  bV (aBin Ty .eql 29 a0 (.pointer none)) fun t3 =>
  cdK t3 (bV (aBuild Ty 56 []) fun t4 =>
  bH (st ty56 h2 t2 t4) fun h3 =>
  bV (ld ty56 h3 t2) fun t5 =>
  some (.tuple #[t5, (.bool false)], h3))
  (lwK h2 (bV (aNilCheck a0) fun t6 =>
  bV (fa 0 t6) fun t7 =>
  psK h2 [t7] (bV (ld ty139 h2 t7) fun t8 =>
  caD (F 73 [t8] (lw0 h2)) h2 [] fun t9 h4 h5 =>
  psK h5 [t1] (ckK [t1] [(h2, h4)] [(h2, h4)] [] (bV (ld ty56 h5 t1) fun t10 =>
  caD (F 83 [t9, t10, a2] (lw0 h5)) h5 [] fun t11 h6 h7 =>
  bV (aExtract t11 0) fun t12 =>
  bV (aExtract t11 1) fun t13 =>
  bV (aExtract t11 2) fun t14 =>
  alK 159 ty159 h7 fun t15 h8 =>
  psK h8 [t15] (bH (st ty159 h8 t15 t12) fun h9 =>
  bV (aUn .not t14) fun t16 =>
  cdK t16 (bV (aBuild Ty 56 []) fun t17 =>
  bH (st ty56 h9 t2 t17) fun h10 =>
  bV (ld ty56 h10 t2) fun t18 =>
  some (.tuple #[t18, (.bool false)], h10))
  (lwK h9 (bV (aNilCheck a0) fun t19 =>
  bV (fa 1 t19) fun t20 =>
  psK h9 [t20] (bV (ld ty3 h9 t20) fun t21 =>
  bV (fa 4 t15) fun t22 =>
  psK h9 [t22] (bV (ld ty3 h9 t22) fun t23 =>
  bV (fa 5 t15) fun t24 =>
  psK h9 [t24] (bV (ld ty54 h9 t24) fun t25 =>
  bV (aBuild Ty 56 [(0, t21), (1, t23), (2, t25)]) fun t26 =>
  psK h9 [t2] (bH (st ty56 h9 t2 t26) fun h11 =>
  bV (ld ty56 h11 t2) fun t27 =>
  some (.tuple #[t27, (.bool true)], h11)))))))))))))
theorem e27 (F : FK) (a0 : Value) (a1 : Value) (a2 : Value) (h : H) : runK Ty F (lvT 27) (jvT 27) NN FU Go.Proofs.Tryz.f27 [a0, a1, a2] h = F27 F a0 a1 a2 h := by kernel_rfl
def F28 (F : FK) (a0 : Value) (h0 : H) : Rz :=
  bV (aBin Ty .eql 29 a0 (.pointer none)) fun t1 =>
  cdK t1 (some ((.int .i64 0), h0))
  (bV (aNilCheck a0) fun t2 =>
  bV (fa 0 t2) fun t3 =>
  bV (ld ty139 h0 t3) fun t4 =>
  bVH (F 73 [t4] h0) fun t5 h1 =>
  bVH (F 85 [t5] h1) fun t6 h2 =>
  some (t6, h2))
theorem e28 (F : FK) (a0 : Value) (h : H) : runK Ty F (lvT 28) (jvT 28) NN FU Go.Proofs.Tryz.f28 [a0] h = F28 F a0 h := by kernel_rfl
def F29 (F : FK) (a0 : Value) (a1 : Value) (a2 : Value) (a3 : Value) (h0 : H) : Rz :=
  bxK 56 a1 h0 fun t1 h1 =>
  bxK 56 a3 h1 fun t2 h2 =>
  bV (aBin Ty .eql 29 a0 (.pointer none)) fun t3 =>
  guardV t3 false (fun k => k a2 h2) h2 fun t4 h3 =>
  guardV t3 false (fun k => bVH (F 79 [t4] h3) fun t6 h5 =>
  k t6 h5) h3 fun t5 h4 =>
  guardV t3 false (fun k => bV (aUn .not t5) fun t8 =>
  k t8 h4) h4 fun t7 h6 =>
  pickK t3 (.bool true) t7 fun t9 =>
  guardV t9 false (fun k => bV (ld ty56 h6 t1) fun t11 =>
  k t11 h6) h6 fun t10 h7 =>
  guardV t9 false (fun k => bVH (F 80 [t10] h7) fun t13 h9 =>
  k t13 h9) h7 fun t12 h8 =>
  guardV t9 false (fun k => bV (aUn .not t12) fun t15 =>
  k t15 h8) h8 fun t14 h10 =>
  pickK t9 (.bool true) t14 fun t16 =>
  cdK t16 (some ((.int .i64 1), h10))
  (bV (aNilCheck a0) fun t17 =>
  bV (fa 0 t17) fun t18 =>
  bV (ld ty139 h10 t18) fun t19 =>
  bVH (F 73 [t19] h10) fun t20 h11 =>
  bV (ld ty56 h11 t1) fun t21 =>
  bVH (F 82 [a0, t20, t21] h11) fun t22 h12 =>
  bV (aBin Ty .neq 46 t22 (.int .i64 0)) fun t23 =>
  cdK t23 (some (t22, h12))
  (bV (ld ty56 h12 t2) fun t24 =>
  bVH (F 91 [a0, t20, t24] h12) fun t25 h13 =>
  bV (aExtract t25 0) fun t26 =>
  bV (aExtract t25 1) fun t27 =>
  bV (aExtract t25 2) fun t28 =>
  alK 75 ty75 h13 fun t29 h14 =>
  bH (st ty75 h14 t29 t27) fun h15 =>
  bV (aUn .not t28) fun t30 =>
  cdK t30 (some ((.int .i64 2), h15))
  (bV (aBin Ty .neq 3 t26 (.int .i64 1)) fun t31 =>
  cdK t31 (some ((.int .i64 1), h15))
  (bV (fa 1 t29) fun t32 =>
  bV (ld ty3 h15 t32) fun t33 =>
  bV (aBin Ty .geq 3 t33 (.int .i64 1000)) fun t34 =>
  cdK t34 (some ((.int .i64 15), h15))
  (bV (ld ty56 h15 t1) fun t35 =>
  bV (fa 1 t2) fun t36 =>
  bV (ld ty3 h15 t36) fun t37 =>
  bV (fa 2 t2) fun t38 =>
  bV (ld ty54 h15 t38) fun t39 =>
  bV (aBuild Ty 159 [(0, t35), (1, a2), (2, t37), (3, t39)]) fun t40 =>
  bVH (F 89 [t20, t40] h15) fun t41 h16 =>
  bV (aBin Ty .neq 46 t41 (.int .i64 0)) fun t42 =>
  cdK t42 (some (t41, h16))
  (bV (fa 1 t2) fun t43 =>
  bV (ld ty3 h16 t43) fun t44 =>
  bVH (F 92 [t20, t44, (.int .i64 1), (.bool true)] h16) fun t45 h17 =>
  bVH (F 75 [t20] h17) fun t46 h18 =>
  some (t46, h18)))))))
theorem e29 (F : FK) (a0 : Value) (a1 : Value) (a2 : Value) (a3 : Value) (h : H) : runK Ty F (lvT 29) (jvT 29) NN FU Go.Proofs.Tryz.f29 [a0, a1, a2, a3] h = F29 F a0 a1 a2 a3 h := by kernel_rfl
def F30 (F : FK) (a0 : Value) (a1 : Value) (a2 : Value) (a3 : Value) (h0 : H) : Rz :=
  bxK 56 a1 h0 fun t1 h1 =>
  bV (aBin Ty .eql 29 a0 (.pointer none)) fun t2 =>
  cdK t2 (some ((.int .i64 1), h1))
  (bV (aNilCheck a0) fun t3 =>
  bV (fa 0 t3) fun t4 =>
  bV (ld ty139 h1 t4) fun t5 =>
  bVH (F 73 [t5] h1) fun t6 h2 =>
  bV (ld ty56 h2 t1) fun t7 =>
  bVH (F 83 [t6, t7, a2] h2) fun t8 h3 =>
  bV (aExtract t8 0) fun t9 =>
  bV (aExtract t8 1) fun t10 =>
  bV (aExtract t8 2) fun t11 =>
  alK 159 ty159 h3 fun t12 h4 =>
  bH (st ty159 h4 t12 t9) fun h5 =>
  bV (aUn .not t11) fun t13 =>
  cdK t13 (some ((.int .i64 2), h5))
  (bV (fa 4 t12) fun t14 =>
  bV (ld ty3 h5 t14) fun t15 =>
  bVH (F 93 [t6, t15] h5) fun t16 h6 =>
  bV (aExtract t16 0) fun t17 =>
  bV (aExtract t16 1) fun t18 =>
  bV (aExtract t16 2) fun t19 =>
  alK 75 ty75 h6 fun t20 h7 =>
  bH (st ty75 h7 t20 t18) fun h8 =>
  bV (aBin Ty .eql 3 t17 (.int .i64 2)) fun t21 =>
  cdK t21 (some ((.int .i64 5), h8))
  (bV (ld ty56 h8 t1) fun t22 =>
  bVH (F 94 [t6, t22, a2] h8) fun t23 h9 =>
  bV (fa 4 t12) fun t24 =>
  bV (ld ty3 h9 t24) fun t25 =>
  bVH (F 92 [t6, t25, (.int .i64 (-1)), a3] h9) fun t26 h10 =>
  bVH (F 75 [t6] h10) fun t27 h11 =>
  some (t27, h11))))
theorem e30 (F : FK) (a0 : Value) (a1 : Value) (a2 : Value) (a3 : Value) (h : H) : runK Ty F (lvT 30) (jvT 30) NN FU Go.Proofs.Tryz.f30 [a0, a1, a2, a3] h = F30 F a0 a1 a2 a3 h := by kernel_rfl
def F31 (F : FK) (a0 : Value) (a1 : Value) (h0 : H) : Rz :=
  bxK 56 a1 h0 fun t1 h1 =>
  alK 75 ty75 h1 fun t2 h2 =>
  bV (aBin Ty .eql 29 a0 (.pointer none)) fun t3 =>
  cdK t3 (bV (aBuild Ty 75 []) fun t4 =>
  bH (st ty75 h2 t2 t4) fun h3 =>
  bV (ld ty75 h3 t2) fun t5 =>
  some (.tuple #[(.int .i64 0), t5, (.bool false)], h3))
  (lwK h2 (bV (aNilCheck a0) fun t6 =>
  bV (fa 0 t6) fun t7 =>
  psK h2 [t7] (bV (ld ty139 h2 t7) fun t8 =>
  caD (F 73 [t8] (lw0 h2)) h2 [] fun t9 h4 h5 =>
  psK h5 [t1] (ckK [t1] [(h2, h4)] [(h2, h4)] [] (bV (ld ty56 h5 t1) fun t10 =>
  caD (F 91 [a0, t9, t10] (lw0 h5)) h5 [] fun t11 h6 h7 =>
  bV (aExtract t11 0) fun t12 =>
  bV (aExtract t11 1) fun t13 =>
  bV (aExtract t11 2) fun t14 =>
  psK h7 [t2] (bH (st ty75 h7 t2 t13) fun h8 =>
  bV (ld ty75 h8 t2) fun t15 =>
  some (.tuple #[t12, t15, t14], h8)))))))
theorem e31 (F : FK) (a0 : Value) (a1 : Value) (h : H) : runK Ty F (lvT 31) (jvT 31) NN FU Go.Proofs.Tryz.f31 [a0, a1] h = F31 F a0 a1 h := by kernel_rfl
def F32 (F : FK) (a0 : Value) (a1 : Value) (a2 : Value) (a3 : Value) (h0 : H) : Rz :=
  bxK 56 a1 h0 fun t1 h1 =>
  bV (ld ty56 h1 t1) fun t2 =>
  bVH (F 95 [a0, t2] h1) fun t3 h2 =>
  bV (aExtract t3 0) fun t4 =>
  bV (aExtract t3 1) fun t5 =>
  bV (aBin Ty .neq 46 t5 (.int .i64 0)) fun t6 =>
  cdK t6 (some (.tuple #[(.int .i64 0), t5], h2))
  (bV (fa 1 t1) fun t7 =>
  bV (ld ty3 h2 t7) fun t8 =>
  bVH (F 96 [t4, t8, a2, a3] h2) fun t9 h3 =>
  bV (aExtract t9 0) fun t10 =>
  bV (aExtract t9 1) fun t11 =>
  jn (Value → Value → H → Rz) (fun t12 t13 h4 =>
  bV (aBin Ty .neq 46 t12 (.int .i64 0)) fun t14 =>
  cdK t14 (some (.tuple #[(.int .i64 0), t12], h4))
  (some (.tuple #[t13, (.int .i64 0)], h4))) fun j1 =>
  bV (aBin Ty .eql 46 t11 (.int .i64 0)) fun t15 =>
  cdK t15 (bVH (F 75 [t4] h3) fun t16 h5 =>
  j1 t16 t10 h5)
  (j1 t11 t10 h3))
theorem e32 (F : FK) (a0 : Value) (a1 : Value) (a2 : Value) (a3 : Value) (h : H) : runK Ty F (lvT 32) (jvT 32) NN FU Go.Proofs.Tryz.f32 [a0, a1, a2, a3] h = F32 F a0 a1 a2 a3 h := by kernel_rfl
def F33 (F : FK) (a0 : Value) (h0 : H) : Rz :=
  bV (aBin Ty .eql 29 a0 (.pointer none)) fun t1 =>
  cdK t1 (some ((.slice none 0 0), h0))
  (bV (aNilCheck a0) fun t2 =>
  bV (fa 0 t2) fun t3 =>
  bV (ld ty139 h0 t3) fun t4 =>
  bVH (F 97 [t4] h0) fun t5 h1 =>
  lpK (Value → Value → Value → Value → H → Rz) (fun _ _ _ _ _ => none) (fun j1 => fun t6 t7 t8 t9 h2 =>
  bV (aBin Ty .lss 3 t9 t8) fun t10 =>
  cdK t10 (bV (aNilCheck t6) fun t11 =>
  bV (fa 0 t11) fun t12 =>
  bV (ld ty139 h2 t12) fun t13 =>
  bVH (F 98 [t13, t9] h2) fun t14 h3 =>
  bV (aExtract t14 0) fun t15 =>
  bV (aExtract t14 1) fun t16 =>
  alK 40 ty40 h3 fun t17 h4 =>
  bH (st ty40 h4 t17 t15) fun h5 =>
  bV (ld ty40 h5 t17) fun t18 =>
  bVH (aBuildSlice Ty h5 41 1 [(0, t18)]) fun t19 h6 =>
  bVH (aAppend Ty h6 41 41 t7 t19) fun t20 h7 =>
  bV (aBin Ty .add 3 t9 (.int .i64 1)) fun t21 =>
  j1 t6 t20 t8 t21 h7)
  (some (t7, h2))) NN a0 (.slice none 0 0) t5 (.int .i64 0) h1)
theorem e33 (F : FK) (a0 : Value) (h : H) : runK Ty F (lvT 33) (jvT 33) NN FU Go.Proofs.Tryz.f33 [a0] h = F33 F a0 h := by kernel_rfl
def F34 (F : FK) (a0 : Value) (a1 : Value) (a2 : Value) (a3 : Value) (a4 : Value) (a5 : Value) (h0 : H) : Rz :=
  bxK 56 a1 h0 fun t1 h1 =>
  bxK 56 a3 h1 fun t2 h2 =>
  bV (aBin Ty .eql 29 a0 (.pointer none)) fun t3 =>
  cdK t3 (some ((.int .i64 1), h2))
  (bV (aNilCheck a0) fun t4 =>
  bV (fa 0 t4) fun t5 =>
  bV (ld ty139 h2 t5) fun t6 =>
  bVH (F 73 [t6] h2) fun t7 h3 =>
  bV (ld ty56 h3 t1) fun t8 =>
  bVH (F 83 [t7, t8, a2] h3) fun t9 h4 =>
  bV (aExtract t9 0) fun t10 =>
  bV (aExtract t9 1) fun t11 =>
  bV (aExtract t9 2) fun t12 =>
  alK 159 ty159 h4 fun t13 h5 =>
  bH (st ty159 h5 t13 t10) fun h6 =>
  bV (aUn .not t12) fun t14 =>
  cdK t14 (some ((.int .i64 2), h6))
  (bVH (F 79 [a4] h6) fun t15 h7 =>
  bV (aUn .not t15) fun t16 =>
  guardV t16 false (fun k => bV (ld ty56 h7 t2) fun t18 =>
  k t18 h7) h7 fun t17 h8 =>
  guardV t16 false (fun k => bVH (F 80 [t17] h8) fun t20 h10 =>
  k t20 h10) h8 fun t19 h9 =>
  guardV t16 false (fun k => bV (aUn .not t19) fun t22 =>
  k t22 h9) h9 fun t21 h11 =>
  pickK t16 (.bool true) t21 fun t23 =>
  cdK t23 (some ((.int .i64 1), h11))
  (bV (ld ty56 h11 t2) fun t24 =>
  bVH (F 82 [a0, t7, t24] h11) fun t25 h12 =>
  bV (aBin Ty .neq 46 t25 (.int .i64 0)) fun t26 =>
  cdK t26 (some (t25, h12))
  (bV (fa 4 t13) fun t27 =>
  bV (ld ty3 h12 t27) fun t28 =>
  bVH (F 93 [t7, t28] h12) fun t29 h13 =>
  bV (aExtract t29 0) fun t30 =>
  bV (aExtract t29 1) fun t31 =>
  bV (aExtract t29 2) fun t32 =>
  alK 75 ty75 h13 fun t33 h14 =>
  bH (st ty75 h14 t33 t31) fun h15 =>
  bV (ld ty56 h15 t1) fun t34 =>
  bV (ld ty56 h15 t2) fun t35 =>
  bV (aBin Ty .eql 56 t34 t35) fun t36 =>
  guardV t36 true (fun k => k a2 h15) h15 fun t37 h16 =>
  guardV t36 true (fun k => k a4 h16) h16 fun t38 h17 =>
  guardV t36 true (fun k => bV (aBin Ty .eql 9 t37 t38) fun t40 =>
  k t40 h17) h17 fun t39 h18 =>
  pickK t36 t39 (.bool false) fun t41 =>
  cdK t41 (some ((.int .i64 0), h18))
  (lwK h18 (bV (aBin Ty .eql 3 t30 (.int .i64 2)) fun t42 =>
  guardV t42 true (fun k => k a0 h18) h18 fun t43 h19 =>
  guardV t42 true (fun k => k t7 h19) h19 fun t44 h20 =>
  guardV t42 true (fun k => psK h20 [t2] (bV (ld ty56 h20 t2) fun t46 =>
  k t46 h20)) h20 fun t45 h21 =>
  guardV t42 true (fun k => k a0 h21) h21 fun t47 h22 =>
  guardV t42 true (fun k => bV (aNilCheck t47) fun t49 =>
  k t49 h22) h22 fun t48 h23 =>
  guardV t42 true (fun k => bV (fa 1 t48) fun t51 =>
  k t51 h23) h23 fun t50 h24 =>
  guardV t42 true (fun k => psK h24 [t50] (bV (ld ty3 h24 t50) fun t53 =>
  k t53 h24)) h24 fun t52 h25 =>
  guardV t42 true (fun k => bV (fa 4 t13) fun t55 =>
  k t55 h25) h25 fun t54 h26 =>
  guardV t42 true (fun k => psK h26 [t54] (bV (ld ty3 h26 t54) fun t57 =>
  k t57 h26)) h26 fun t56 h27 =>
  guardV t42 true (fun k => bV (fa 5 t13) fun t59 =>
  k t59 h27) h27 fun t58 h28 =>
  guardV t42 true (fun k => psK h28 [t58] (bV (ld ty54 h28 t58) fun t61 =>
  k t61 h28)) h28 fun t60 h29 =>
  guardV t42 true (fun k => bV (aBuild Ty 56 [(0, t52), (1, t56), (2, t60)]) fun t63 =>
  k t63 h29) h29 fun t62 h30 =>
  guardD t42 true (fun k => caD (F 99 [t43, t44, t45, t62] (lw0 h30)) h30 [] k) h30 fun t64 h31 h32 =>
  pickK t42 t64 (.bool false) fun t65 =>
  cdK t65 (some ((.int .i64 1), h32))
  (jn (Value → Value → Value → Value → Value → H → Rz) (fun t66 t67 t68 t69 t70 h33 =>
  bV (ld ty56 h33 t67) fun t71 =>
  bV (fa 4 t69) fun t72 =>
  bV (ld ty3 h33 t72) fun t73 =>
  bV (fa 5 t69) fun t74 =>
  bV (ld ty54 h33 t74) fun t75 =>
  bV (aBuild Ty 159 [(0, t71), (1, t66), (2, t73), (3, t75)]) fun t76 =>
  bVH (F 100 [t76] h33) fun t77 h34 =>
  bV (aExtract t77 0) fun t78 =>
  bV (aExtract t77 1) fun t79 =>
  alK 40 ty40 h34 fun t80 h35 =>
  bH (st ty40 h35 t80 t78) fun h36 =>
  bV (ld ty40 h36 t80) fun t81 =>
  bVH (F 87 [t68, t70, t81] h36) fun t82 h37 =>
  bVH (F 75 [t68] h37) fun t83 h38 =>
  some (t83, h38)) fun j1 =>
  bV (ld ty56 h32 t2) fun t84 =>
  bVH (F 83 [t7, t84, a4] h32) fun t85 h39 =>
  bV (aExtract t85 0) fun t86 =>
  bV (aExtract t85 1) fun t87 =>
  bV (aExtract t85 2) fun t88 =>
  alK 159 ty159 h39 fun t89 h40 =>
  bH (st ty159 h40 t89 t86) fun h41 =>
  cdK t88 (bV (fa 4 t89) fun t90 =>
  bV (ld ty3 h41 t90) fun t91 =>
  bVH (F 93 [t7, t91] h41) fun t92 h42 =>
  bV (aExtract t92 0) fun t93 =>
  bV (aExtract t92 1) fun t94 =>
  bV (aExtract t92 2) fun t95 =>
  alK 75 ty75 h42 fun t96 h43 =>
  bH (st ty75 h43 t96 t94) fun h44 =>
  bV (aBin Ty .eql 3 t93 (.int .i64 2)) fun t97 =>
  guardV t97 false (fun k => k t30 h44) h44 fun t98 h45 =>
  guardV t97 false (fun k => bV (aBin Ty .eql 3 t98 (.int .i64 2)) fun t100 =>
  k t100 h45) h45 fun t99 h46 =>
  pickK t97 (.bool true) t99 fun t101 =>
  cdK t101 (some ((.int .i64 4), h46))
  (bV (ld ty56 h46 t2) fun t102 =>
  bVH (F 94 [t7, t102, a4] h46) fun t103 h47 =>
  bV (fa 4 t89) fun t104 =>
  bV (ld ty3 h47 t104) fun t105 =>
  bVH (F 92 [t7, t105, (.int .i64 (-1)), a5] h47) fun t106 h48 =>
  j1 a4 t2 t7 t13 t11 h48))
  (j1 a4 t2 t7 t13 t11 h41))))))))
theorem e34 (F : FK) (a0 : Value) (a1 : Value) (a2 : Value) (a3 : Value) (a4 : Value) (a5 : Value) (h : H) : runK Ty F (lvT 34) (jvT 34) NN FU Go.Proofs.Tryz.f34 [a0, a1, a2, a3, a4, a5] h = F34 F a0 a1 a2 a3 a4 a5 h := by kernel_rfl
def F35 (F : FK) (a0 : Value) (a1 : Value) (a2 : Value) (a3 : Value) (h0 : H) : Rz :=
  bxK 56 a1 h0 fun t1 h1 =>
  bV (ld ty56 h1 t1) fun t2 =>
  bVH (F 95 [a0, t2] h1) fun t3 h2 =>
  bV (aExtract t3 0) fun t4 =>
  bV (aExtract t3 1) fun t5 =>
  bV (aBin Ty .neq 46 t5 (.int .i64 0)) fun t6 =>
  cdK t6 (some (.tuple #[(.slice none 0 0), t5], h2))
  (bV (fa 1 t1) fun t7 =>
  bV (ld ty3 h2 t7) fun t8 =>
  bVH (F 101 [t4, t8, a2, a3] h2) fun t9 h3 =>
  bV (aExtract t9 0) fun t10 =>
  bV (aExtract t9 1) fun t11 =>
  some (.tuple #[t10, t11], h3))
theorem e35 (F : FK) (a0 : Value) (a1 : Value) (a2 : Value) (a3 : Value) (h : H) : runK Ty F (lvT 35) (jvT 35) NN FU Go.Proofs.Tryz.f35 [a0, a1, a2, a3] h = F35 F a0 a1 a2 a3 h := by kernel_rfl
def F36 (F : FK) (a0 : Value) (a1 : Value) (h0 : H) : Rz :=
  bxK 56 a1 h0 fun t1 h1 =>
  bV (aBin Ty .eql 29 a0 (.pointer none)) fun t2 =>
  cdK t2 (some ((.int .i64 1), h1))
  (bV (aNilCheck a0) fun t3 =>
  bV (fa 0 t3) fun t4 =>
  bV (ld ty139 h1 t4) fun t5 =>
  bVH (F 73 [t5] h1) fun t6 h2 =>
  bV (ld ty56 h2 t1) fun t7 =>
  bVH (F 91 [a0, t6, t7] h2) fun t8 h3 =>
  bV (aExtract t8 0) fun t9 =>
  bV (aExtract t8 1) fun t10 =>
  bV (aExtract t8 2) fun t11 =>
  alK 75 ty75 h3 fun t12 h4 =>
  bH (st ty75 h4 t12 t10) fun h5 =>
  bV (aUn .not t11) fun t13 =>
  guardV t13 false (fun k => bV (fa 1 t12) fun t15 =>
  k t15 h5) h5 fun t14 h6 =>
  guardV t13 false (fun k => bV (ld ty3 h6 t14) fun t17 =>
  k t17 h6) h6 fun t16 h7 =>
  guardV t13 false (fun k => bV (aBin Ty .neq 3 t16 (.int .i64 0)) fun t19 =>
  k t19 h7) h7 fun t18 h8 =>
  pickK t13 (.bool true) t18 fun t20 =>
  cdK t20 (some ((.int .i64 2), h8))
  (bV (fa 1 t1) fun t21 =>
  bV (ld ty3 h8 t21) fun t22 =>
  bVH (F 74 [t6, t22] h8) fun t23 h9 =>
  bVH (F 75 [t6] h9) fun t24 h10 =>
  some (t24, h10)))
theorem e36 (F : FK) (a0 : Value) (a1 : Value) (h : H) : runK Ty F (lvT 36) (jvT 36) NN FU Go.Proofs.Tryz.f36 [a0, a1] h = F36 F a0 a1 h := by kernel_rfl
def F42 (F : FK) (a0 : Value) (h0 : H) : Rz :=
  bV (aBin Ty .neq 29 a0 (.pointer none)) fun t1 =>
  cdK t1 (bV (aNilCheck a0) fun t2 =>
  bV (fa 0 t2) fun t3 =>
  bV (ld ty139 h0 t3) fun t4 =>
  bVH (F 109 [t4] h0) fun t5 h1 =>
  some (.tuple #[], h1))
  (some (.tuple #[], h0))
theorem e42 (F : FK) (a0 : Value) (h : H) : runK Ty F (lvT 42) (jvT 42) NN FU Go.Proofs.Tryz.f42 [a0] h = F42 F a0 h := by kernel_rfl
def F43 (F : FK) (a0 : Value) (h0 : H) : Rz :=
  bV (aBin Ty .neq 29 a0 (.pointer none)) fun t1 =>
  cdK t1 (bV (aNilCheck a0) fun t2 =>
  bV (fa 0 t2) fun t3 =>
  bV (ld ty139 h0 t3) fun t4 =>
  bVH (F 110 [t4] h0) fun t5 h1 =>
  some (.tuple #[], h1))
  (some (.tuple #[], h0))
theorem e43 (F : FK) (a0 : Value) (h : H) : runK Ty F (lvT 43) (jvT 43) NN FU Go.Proofs.Tryz.f43 [a0] h = F43 F a0 h := by kernel_rfl
def F44 (F : FK) (a0 : Value) (a1 : Value) (a2 : Value) (h0 : H) : Rz :=
  bxK 56 a1 h0 fun t1 h1 =>
  bV (aBin Ty .eql 29 a0 (.pointer none)) fun t2 =>
  cdK t2 (some ((.int .i64 1), h1))
  (bV (aNilCheck a0) fun t3 =>
  bV (fa 0 t3) fun t4 =>
  bV (ld ty139 h1 t4) fun t5 =>
  bVH (F 73 [t5] h1) fun t6 h2 =>
  bV (ld ty56 h2 t1) fun t7 =>
  bVH (F 83 [t6, t7, a2] h2) fun t8 h3 =>
  bV (aExtract t8 0) fun t9 =>
  bV (aExtract t8 1) fun t10 =>
  bV (aExtract t8 2) fun t11 =>
  alK 159 ty159 h3 fun t12 h4 =>
  bH (st ty159 h4 t12 t9) fun h5 =>
  bV (aUn .not t11) fun t13 =>
  cdK t13 (some ((.int .i64 2), h5))
  (bV (fa 4 t12) fun t14 =>
  bV (ld ty3 h5 t14) fun t15 =>
  bVH (F 93 [t6, t15] h5) fun t16 h6 =>
  bV (aExtract t16 0) fun t17 =>
  bV (aExtract t16 1) fun t18 =>
  bV (aExtract t16 2) fun t19 =>
  alK 75 ty75 h6 fun t20 h7 =>
  bH (st ty75 h7 t20 t18) fun h8 =>
  bV (aBin Ty .neq 3 t17 (.int .i64 2)) fun t21 =>
  cdK t21 (some ((.int .i64 6), h8))
  (lwK h8 (bV (aNilCheck a0) fun t22 =>
  bV (fa 1 t22) fun t23 =>
  psK h8 [t23] (bV (ld ty3 h8 t23) fun t24 =>
  bV (fa 4 t12) fun t25 =>
  psK h8 [t25] (bV (ld ty3 h8 t25) fun t26 =>
  bV (fa 5 t12) fun t27 =>
  psK h8 [t27] (bV (ld ty54 h8 t27) fun t28 =>
  bV (aBuild Ty 56 [(0, t24), (1, t26), (2, t28)]) fun t29 =>
  caD (F 90 [t6, t29] (lw0 h8)) h8 [] fun t30 h9 h10 =>
  bV (aLen Ty h10 168 t30) fun t31 =>
  bV (aBin Ty .gtr 3 t31 (.int .i64 0)) fun t32 =>
  cdK t32 (some ((.int .i64 7), h10))
  (bV (ld ty56 h10 t1) fun t33 =>
  bVH (F 94 [t6, t33, a2] h10) fun t34 h11 =>
  bV (fa 4 t12) fun t35 =>
  bV (ld ty3 h11 t35) fun t36 =>
  bVH (F 74 [t6, t36] h11) fun t37 h12 =>
  bVH (F 75 [t6] h12) fun t38 h13 =>
  some (t38, h13)))))))))
theorem e44 (F : FK) (a0 : Value) (a1 : Value) (a2 : Value) (h : H) : runK Ty F (lvT 44) (jvT 44) NN FU Go.Proofs.Tryz.f44 [a0, a1, a2] h = F44 F a0 a1 a2 h := by kernel_rfl
def F45 (F : FK) (a0 : Value) (a1 : Value) (a2 : Value) (h0 : H) : Rz :=
  bxK 56 a1 h0 fun t1 h1 =>
  bV (ld ty56 h1 t1) fun t2 =>
  bVH (F 95 [a0, t2] h1) fun t3 h2 =>
  bV (aExtract t3 0) fun t4 =>
  bV (aExtract t3 1) fun t5 =>
  jn (Value → Value → H → Rz) (fun t6 t7 h3 =>
  jn (Value → H → Rz) (fun t8 h4 =>
  some (t8, h4)) fun j2 =>
  bV (aBin Ty .eql 46 t7 (.int .i64 0)) fun t9 =>
  cdK t9 (bVH (F 75 [t6] h3) fun t10 h5 =>
  j2 t10 h5)
  (j2 t7 h3)) fun j1 =>
  bV (aBin Ty .eql 46 t5 (.int .i64 0)) fun t11 =>
  cdK t11 (bV (fa 1 t1) fun t12 =>
  bV (ld ty3 h2 t12) fun t13 =>
  bVH (F 111 [t4, t13, a2] h2) fun t14 h6 =>
  j1 t4 t14 h6)
  (j1 t4 t5 h2)
theorem e45 (F : FK) (a0 : Value) (a1 : Value) (a2 : Value) (h : H) : runK Ty F (lvT 45) (jvT 45) NN FU Go.Proofs.Tryz.f45 [a0, a1, a2] h = F45 F a0 a1 a2 h := by kernel_rfl
def F49 (F : FK) (a0 : Value) (h0 : H) : Rz :=
  bV (aLen Ty h0 87 a0) fun t1 =>
  bV (aBin Ty .lss 3 t1 (.int .i64 1)) fun t2 =>
  guardV t2 false (fun k => k a0 h0) h0 fun t3 h1 =>
  guardV t2 false (fun k => bV (aLen Ty h1 87 t3) fun t5 =>
  k t5 h1) h1 fun t4 h2 =>
  guardV t2 false (fun k => bV (aBin Ty .gtr 3 t4 (.int .i64 8)) fun t7 =>
  k t7 h2) h2 fun t6 h3 =>
  pickK t2 (.bool true) t6 fun t8 =>
  cdK t8 (some (.tuple #[(.pointer none), (.bool false)], h3))
  (bV (aBuild Ty 128 [(1, (.int .i64 (-1)))]) fun t9 =>
  bxK 128 t9 h3 fun t10 h4 =>
  bV (aLen Ty h4 87 a0) fun t11 =>
  lpK (Value → Value → Value → Value → H → Rz) (fun _ _ _ _ _ => none) (fun j1 => fun t12 t13 t14 t15 h5 =>
  bV (aBin Ty .lss 3 t15 t14) fun t16 =>
  cdK t16 (bV (aIndexAddr Ty 87 t13 t15) fun t17 =>
  bV (ld ty3 h5 t17) fun t18 =>
  bV (aBin Ty .lss 3 t18 (.int .i64 1)) fun t19 =>
  guardV t19 false (fun k => k t18 h5) h5 fun t20 h6 =>
  guardV t19 false (fun k => bV (aBin Ty .gtr 3 t20 (.int .i64 1000)) fun t22 =>
  k t22 h6) h6 fun t21 h7 =>
  pickK t19 (.bool true) t21 fun t23 =>
  cdK t23 (some (.tuple #[(.pointer none), (.bool false)], h7))
  (bV (aBuild Ty 131 []) fun t24 =>
  bxK 131 t24 h7 fun t25 h8 =>
  lpK (Value → Value → Value → Value → Value → Value → Value → H → Rz) (fun _ _ _ _ _ _ _ _ => none) (fun j2 => fun t26 t27 t28 t29 t30 t31 t32 h9 =>
  bV (aBin Ty .lss 3 t32 t31) fun t33 =>
  cdK t33 (lwK h9 (bV (aNilCheck t27) fun t34 =>
  bV (fa 0 t34) fun t35 =>
  psK h9 [t35] (bV (ld ty100 h9 t35) fun t36 =>
  bVH (aMakeSlice Ty h9 22 (.int .i64 64) (.int .i64 64)) fun t37 h10 =>
  bVH (aBuildSlice Ty h10 100 1 [(0, t37)]) fun t38 h11 =>
  psK h11 [t36, t38] (bVH (aAppend Ty h11 100 100 t36 t38) fun t39 h12 =>
  bV (aNilCheck t27) fun t40 =>
  bV (fa 1 t40) fun t41 =>
  psK h12 [t41] (ckK [t41] [(h9, h10), (h10, h11), (h11, h12)] [] [t36, t38] (bV (ld ty100 h12 t41) fun t42 =>
  bVH (aMakeSlice Ty h12 22 (.int .i64 64) (.int .i64 64)) fun t43 h13 =>
  bVH (aBuildSlice Ty h13 100 1 [(0, t43)]) fun t44 h14 =>
  psK h14 [t42, t44] (bVH (aAppend Ty h14 100 100 t42 t44) fun t45 h15 =>
  bV (aNilCheck t27) fun t46 =>
  bV (fa 0 t46) fun t47 =>
  psK h15 [t47] (bH (st ty100 h15 t47 t39) fun h16 =>
  bV (aNilCheck t27) fun t48 =>
  bV (fa 1 t48) fun t49 =>
  psK h16 [t49] (bH (st ty100 h16 t49 t45) fun h17 =>
  bV (aBin Ty .add 3 t32 (.int .i64 1)) fun t50 =>
  j2 t26 t27 t28 t29 t30 t31 t50 h17)))))))))
  (bV (aNilCheck t26) fun t51 =>
  bV (fa 0 t51) fun t52 =>
  bV (ld ty126 h9 t52) fun t53 =>
  bVH (aBuildSlice Ty h9 126 1 [(0, t27)]) fun t54 h18 =>
  bVH (aAppend Ty h18 126 126 t53 t54) fun t55 h19 =>
  bV (aNilCheck t26) fun t56 =>
  bV (fa 0 t56) fun t57 =>
  bH (st ty126 h19 t57 t55) fun h20 =>
  bV (aBin Ty .add 3 t30 (.int .i64 1)) fun t58 =>
  j1 t26 t28 t29 t58 h20)) NN t12 t25 t13 t14 t15 t18 (.int .i64 0) h8))
  (some (.tuple #[t12, (.bool true)], h5))) NN t10 a0 t11 (.int .i64 0) h4)
theorem e49 (F : FK) (a0 : Value) (h : H) : runK Ty F (lvT 49) (jvT 49) NN FU Go.Proofs.Tryz.f49 [a0] h = F49 F a0 h := by kernel_rfl
def F50 (F : FK) (a0 : Value) (a1 : Value) (a2 : Value) (h0 : H) : Rz :=
  bxK 28 a2 h0 fun t1 h1 =>
  bV (ld ty28 h1 t1) fun t2 =>
  bVH (F 113 [a0, a1, t2] h1) fun t3 h2 =>
  some (t3, h2)
theorem e50 (F : FK) (a0 : Value) (a1 : Value) (a2 : Value) (h : H) : runK Ty F (lvT 50) (jvT 50) NN FU Go.Proofs.Tryz.f50 [a0, a1, a2] h = F50 F a0 a1 a2 h := by kernel_rfl
def F51 (F : FK) (a0 : Value) (h0 : H) : Rz :=
  bxK 28 a0 h0 fun t1 h1 =>
  bV (fa 3 t1) fun t2 =>
  bV (ld ty3 h1 t2) fun t3 =>
  bV (aBin Ty .add 3 (.int .i64 2) t3) fun t4 =>
  bV (fa 2 t1) fun t5 =>
  bV (ld ty3 h1 t5) fun t6 =>
  bV (aBin Ty .add 3 t4 t6) fun t7 =>
  some (t7, h1)
theorem e51 (F : FK) (a0 : Value) (h : H) : runK Ty F (lvT 51) (jvT 51) NN FU Go.Proofs.Tryz.f51 [a0] h = F51 F a0 h := by kernel_rfl
def F65 (F : FK) (a0 : Value) (a1 : Value) (a2 : Value) (h0 : H) : Rz :=
  bV (aBin Ty .eql 24 a0 (.pointer none)) fun t1 =>
  guardV t1 false (fun k => k a1 h0) h0 fun t2 h1 =>
  guardV t1 false (fun k => bV (aBin Ty .lss 3 t2 (.int .i64 0)) fun t4 =>
  k t4 h1) h1 fun t3 h2 =>
  pickK t1 (.bool true) t3 fun t5 =>
  guardV t5 false (fun k => k a1 h2) h2 fun t6 h3 =>
  guardV t5 false (fun k => k a0 h3) h3 fun t7 h4 =>
  guardV t5 false (fun k => bV (aNilCheck t7) fun t9 =>
  k t9 h4) h4 fun t8 h5 =>
  guardV t5 false (fun k => bV (fa 0 t8) fun t11 =>
  k t11 h5) h5 fun t10 h6 =>
  guardV t5 false (fun k => bV (ld ty126 h6 t10) fun t13 =>
  k t13 h6) h6 fun t12 h7 =>
  guardV t5 false (fun k => bV (aLen Ty h7 126 t12) fun t15 =>
  k t15 h7) h7 fun t14 h8 =>
  guardV t5 false (fun k => bV (aBin Ty .geq 3 t6 t14) fun t17 =>
  k t17 h8) h8 fun t16 h9 =>
  pickK t5 (.bool true) t16 fun t18 =>
  guardV t18 false (fun k => k a2 h9) h9 fun t19 h10 =>
  guardV t18 false (fun k => bV (aBin Ty .lss 3 t19 (.int .i64 0)) fun t21 =>
  k t21 h10) h10 fun t20 h11 =>
  pickK t18 (.bool true) t20 fun t22 =>
  guardV t22 false (fun k => k a2 h11) h11 fun t23 h12 =>
  guardV t22 false (fun k => k a0 h12) h12 fun t24 h13 =>
  guardV t22 false (fun k => bV (aNilCheck t24) fun t26 =>
  k t26 h13) h13 fun t25 h14 =>
  guardV t22 false (fun k => bV (fa 0 t25) fun t28 =>
  k t28 h14) h14 fun t27 h15 =>
  guardV t22 false (fun k => bV (ld ty126 h15 t27) fun t30 =>
  k t30 h15) h15 fun t29 h16 =>
  guardV t22 false (fun k => k a1 h16) h16 fun t31 h17 =>
  guardV t22 false (fun k => bV (aIndexAddr Ty 126 t29 t31) fun t33 =>
  k t33 h17) h17 fun t32 h18 =>
  guardV t22 false (fun k => bV (ld ty124 h18 t32) fun t35 =>
  k t35 h18) h18 fun t34 h19 =>
  guardV t22 false (fun k => bV (aNilCheck t34) fun t37 =>
  k t37 h19) h19 fun t36 h20 =>
  guardV t22 false (fun k => bV (fa 0 t36) fun t39 =>
  k t39 h20) h20 fun t38 h21 =>
  guardV t22 false (fun k => bV (ld ty100 h21 t38) fun t41 =>
  k t41 h21) h21 fun t40 h22 =>
  guardV t22 false (fun k => bV (aLen Ty h22 100 t40) fun t43 =>
  k t43 h22) h22 fun t42 h23 =>
  guardV t22 false (fun k => bV (aBin Ty .geq 3 t23 t42) fun t45 =>
  k t45 h23) h23 fun t44 h24 =>
  pickK t22 (.bool true) t44 fun t46 =>
  cdK t46 (some ((.pointer none), h24))
  (bV (aNilCheck a0) fun t47 =>
  bV (fa 0 t47) fun t48 =>
  bV (ld ty126 h24 t48) fun t49 =>
  bV (aIndexAddr Ty 126 t49 a1) fun t50 =>
  bV (ld ty124 h24 t50) fun t51 =>
  some (t51, h24))
theorem e65 (F : FK) (a0 : Value) (a1 : Value) (a2 : Value) (h : H) : runK Ty F (lvT 65) (jvT 65) NN FU Go.Proofs.Tryz.f65 [a0, a1, a2] h = F65 F a0 a1 a2 h := by kernel_rfl
def F66 (F : FK) (a0 : Value) (h0 : H) : Rz :=
  bV (aBin Ty .eql 22 a0 (.slice none 0 0)) fun t1 =>
  cdK t1 (some ((.slice none 0 0), h0))
  (bVH (aBuildSlice Ty h0 22 0 []) fun t2 h1 =>
  bVH (aAppend Ty h1 22 22 t2 a0) fun t3 h2 =>
  some (t3, h2))
theorem e66 (F : FK) (a0 : Value) (h : H) : runK Ty F (lvT 66) (jvT 66) NN FU Go.Proofs.Tryz.f66 [a0] h = F66 F a0 h := by kernel_rfl
def F67 (F : FK) (a0 : Value) (h0 : H) : Rz :=
  bV (aLen Ty h0 100 a0) fun t1 =>
  lpK (Value → Value → Value → Value → Value → H → Rz) (fun _ _ _ _ _ _ => none) (fun j1 => fun t2 t3 t4 t5 t6 h1 =>
  bV (aBin Ty .lss 3 t6 t5) fun t7 =>
  cdK t7 (jn (Value → Value → Value → Value → Value → H → Rz) (fun t8 t9 t10 t11 t12 h2 =>
  bV (aBin Ty .add 3 t12 (.int .i64 1)) fun t13 =>
  j1 t8 t9 t10 t11 t13 h2) fun j2 =>
  bV (aIndexAddr Ty 100 t4 t6) fun t14 =>
  bV (ld ty22 h1 t14) fun t15 =>
  bV (aLen Ty h1 22 t15) fun t16 =>
  bV (aBin Ty .add 3 t3 t16) fun t17 =>
  bV (aBin Ty .lss 3 t17 (.int .i64 0)) fun t18 =>
  cdK t18 (none)
  (j2 t2 t17 t4 t5 t6 h1))
  (bVH (F 135 [(.slice none 0 0), t3] h1) fun t19 h3 =>
  bV (aLen Ty h3 100 t2) fun t20 =>
  lpK (Value → Value → Value → Value → H → Rz) (fun _ _ _ _ _ => none) (fun j3 => fun t21 t22 t23 t24 h4 =>
  bV (aBin Ty .lss 3 t24 t23) fun t25 =>
  cdK t25 (bV (aIndexAddr Ty 100 t22 t24) fun t26 =>
  bV (ld ty22 h4 t26) fun t27 =>
  bVH (aAppend Ty h4 22 22 t21 t27) fun t28 h5 =>
  bV (aBin Ty .add 3 t24 (.int .i64 1)) fun t29 =>
  j3 t28 t22 t23 t29 h5)
  (some (t21, h4))) NN t19 t2 t20 (.int .i64 0) h3)) NN a0 (.int .i64 0) a0 t1 (.int .i64 0) h0
theorem e67 (F : FK) (a0 : Value) (h : H) : runK Ty F (lvT 67) (jvT 67) NN FU Go.Proofs.Tryz.f67 [a0] h = F67 F a0 h := by kernel_rfl
def F68 (F : FK) (a0 : Value) (a1 : Value) (h0 : H) : Rz :=
  bV (aConv Ty 203 a0) fun t1 =>
  bV (aConv Ty 203 a1) fun t2 =>
  bV (aComplex t1 t2) fun t3 =>
  some (t3, h0)
theorem e68 (F : FK) (a0 : Value) (a1 : Value) (h : H) : runK Ty F (lvT 68) (jvT 68) NN FU Go.Proofs.Tryz.f68 [a0, a1] h = F68 F a0 a1 h := by kernel_rfl
def F69 (F : FK) (a0 : Value) (a1 : Value) (h0 : H) : Rz :=
  bV (aBin Ty .lss 3 a1 (.int .i64 0)) fun t1 =>
  guardV t1 false (fun k => k a1 h0) h0 fun t2 h1 =>
  guardV t1 false (fun k => k a0 h1) h1 fun t3 h2 =>
  guardV t1 false (fun k => bV (aImag t3) fun t5 =>
  k t5 h2) h2 fun t4 h3 =>
  guardV t1 false (fun k => bV (aConv Ty 3 t4) fun t7 =>
  k t7 h3) h3 fun t6 h4 =>
  guardV t1 false (fun k => bV (aBin Ty .geq 3 t2 t6) fun t9 =>
  k t9 h4) h4 fun t8 h5 =>
  pickK t1 (.bool true) t8 fun t10 =>
  cdK t10 (some ((.int .i64 (-1)), h5))
  (bV (aReal a0) fun t11 =>
  bV (aConv Ty 3 t11) fun t12 =>
  bV (aBin Ty .add 3 t12 a1) fun t13 =>
  some (t13, h5))
theorem e69 (F : FK) (a0 : Value) (a1 : Value) (h : H) : runK Ty F (lvT 69) (jvT 69) NN FU Go.Proofs.Tryz.f69 [a0, a1] h = F69 F a0 a1 h := by kernel_rfl
def F70 (F : FK) (a0 : Value) (a1 : Value) (a2 : Value) (h0 : H) : Rz :=
  bxK 28 a2 h0 fun t1 h1 =>
  bV (ld ty28 h1 t1) fun t2 =>
  bVH (F 136 [a0, a1, t2, (.int .u32 0)] h1) fun t3 h2 =>
  bV (aBin Ty .eql 24 a0 (.pointer none)) fun t4 =>
  guardV t4 false (fun k => k a1 h2) h2 fun t5 h3 =>
  guardV t4 false (fun k => bV (aBin Ty .lss 3 t5 (.int .i64 0)) fun t7 =>
  k t7 h3) h3 fun t6 h4 =>
  pickK t4 (.bool true) t6 fun t8 =>
  guardV t8 false (fun k => k a1 h4) h4 fun t9 h5 =>
  guardV t8 false (fun k => k a0 h5) h5 fun t10 h6 =>
  guardV t8 false (fun k => bVH (F 137 [t10] h6) fun t12 h8 =>
  k t12 h8) h6 fun t11 h7 =>
  guardV t8 false (fun k => bV (aBin Ty .geq 3 t9 t11) fun t14 =>
  k t14 h7) h7 fun t13 h9 =>
  pickK t8 (.bool true) t13 fun t15 =>
  guardV t15 false (fun k => k t3 h9) h9 fun t16 h10 =>
  guardV t15 false (fun k => bVH (F 138 [t16] h10) fun t18 h12 =>
  k t18 h12) h10 fun t17 h11 =>
  guardV t15 false (fun k => bV (aUn .not t17) fun t20 =>
  k t20 h11) h11 fun t19 h13 =>
  pickK t15 (.bool true) t19 fun t21 =>
  cdK t21 (some (.tuple #[(.pointer none), (.int .i64 14)], h13))
  (bVH (F 139 [t3] h13) fun t22 h14 =>
  bV (fa 2 t1) fun t23 =>
  bV (ld ty3 h14 t23) fun t24 =>
  lpK (Value → Value → Value → Value → H → Rz) (fun _ _ _ _ _ => none) (fun j1 => fun t25 t26 t27 t28 h15 =>
  bV (aBin Ty .lss 3 t28 t27) fun t29 =>
  cdK t29 (bV (aLookup Ty h15 205 t26 t28 true) fun t30 =>
  bV (aExtract t30 0) fun t31 =>
  bV (aExtract t30 1) fun t32 =>
  alK 40 ty40 h15 fun t33 h16 =>
  bH (st ty40 h16 t33 t31) fun h17 =>
  jn (Value → Value → Value → Value → Value → H → Rz) (fun t34 t35 t36 t37 t38 h18 =>
  lwK h18 (bV (aNilCheck t34) fun t39 =>
  bV (fa 11 t39) fun t40 =>
  psK h18 [t40] (bV (ld ty41 h18 t40) fun t41 =>
  psK h18 [t36] (bV (ld ty40 h18 t36) fun t42 =>
  bVH (aBuildSlice Ty h18 41 1 [(0, t42)]) fun t43 h19 =>
  psK h19 [t41, t43] (bVH (aAppend Ty h19 41 41 t41 t43) fun t44 h20 =>
  bV (aNilCheck t34) fun t45 =>
  bV (fa 11 t45) fun t46 =>
  psK h20 [t46] (bH (st ty41 h20 t46 t44) fun h21 =>
  bV (aBin Ty .add 3 t38 (.int .i64 1)) fun t47 =>
  j1 t34 t35 t37 t47 h21)))))) fun j2 =>
  cdK t32 (bV (aNilCheck t25) fun t48 =>
  bV (fa 12 t48) fun t49 =>
  bV (ld ty207 h17 t49) fun t50 =>
  bH (aMapUpdate Ty h17 207 t50 t28 (.bool true)) fun h22 =>
  j2 t25 t26 t33 t27 t28 h22)
  (bVH (F 140 [t25, t28] h17) fun t51 h23 =>
  bV (aExtract t51 0) fun t52 =>
  bV (aExtract t51 1) fun t53 =>
  bH (st ty40 h23 t33 t52) fun h24 =>
  bV (aUn .not t53) fun t54 =>
  cdK t54 (some (.tuple #[(.pointer none), (.int .i64 14)], h24))
  (j2 t25 t26 t33 t27 t28 h24)))
  (bVH (F 141 [t25] h15) fun t55 h25 =>
  some (.tuple #[t25, (.int .i64 0)], h25))) NN t3 t22 t24 (.int .i64 0) h14)
theorem e70 (F : FK) (a0 : Value) (a1 : Value) (a2 : Value) (h : H) : runK Ty F (lvT 70) (jvT 70) NN FU Go.Proofs.Tryz.f70 [a0, a1, a2] h = F70 F a0 a1 a2 h := by kernel_rfl
def F71 (F : FK) (a0 : Value) (a1 : Value) (h0 : H) : Rz :=
  bV (aLen Ty h0 41 a1) fun t1 =>
  bV (aBin Ty .lss 3 t1 (.int .i64 4)) fun t2 =>
  guardV t2 false (fun k => k a1 h0) h0 fun t3 h1 =>
  guardV t2 false (fun k => bV (aLen Ty h1 41 t3) fun t5 =>
  k t5 h1) h1 fun t4 h2 =>
  guardV t2 false (fun k => bV (aBin Ty .gtr 3 t4 (.int .i64 200)) fun t7 =>
  k t7 h2) h2 fun t6 h3 =>
  pickK t2 (.bool true) t6 fun t8 =>
  guardV t8 false (fun k => k a0 h3) h3 fun t9 h4 =>
  guardV t8 false (fun k => bV (aBin Ty .lss 3 t9 (.int .i64 0)) fun t11 =>
  k t11 h4) h4 fun t10 h5 =>
  pickK t8 (.bool true) t10 fun t12 =>
  guardV t12 false (fun k => k a0 h5) h5 fun t13 h6 =>
  guardV t12 false (fun k => bV (aBin Ty .geq 3 t13 (.int .i64 8)) fun t15 =>
  k t15 h6) h6 fun t14 h7 =>
  pickK t12 (.bool true) t14 fun t16 =>
  cdK t16 (some ((.bool false), h7))
  (mmK 211 h7 fun t17 h8 =>
  mmK 207 h8 fun t18 h9 =>
  bV (aBuild Ty 213 [(0, a0), (1, a1), (3, t17), (5, t18)]) fun t19 =>
  bxK 213 t19 h9 fun t20 h10 =>
  bVH (F 142 [t20] h10) fun t21 h11 =>
  guardV t21 true (fun k => k t20 h11) h11 fun t22 h12 =>
  guardV t21 true (fun k => bVH (F 143 [t22] h12) fun t24 h14 =>
  k t24 h14) h12 fun t23 h13 =>
  pickK t21 t23 (.bool false) fun t25 =>
  guardV t25 true (fun k => k t20 h13) h13 fun t26 h15 =>
  guardV t25 true (fun k => bVH (F 144 [t26] h15) fun t28 h17 =>
  k t28 h17) h15 fun t27 h16 =>
  pickK t25 t27 (.bool false) fun t29 =>
  guardV t29 true (fun k => k t20 h16) h16 fun t30 h18 =>
  guardV t29 true (fun k => bVH (F 145 [t30] h18) fun t32 h20 =>
  k t32 h20) h18 fun t31 h19 =>
  pickK t29 t31 (.bool false) fun t33 =>
  guardV t33 true (fun k => k t20 h19) h19 fun t34 h21 =>
  guardV t33 true (fun k => bVH (F 146 [t34] h21) fun t36 h23 =>
  k t36 h23) h21 fun t35 h22 =>
  pickK t33 t35 (.bool false) fun t37 =>
  some (t37, h22))
theorem e71 (F : FK) (a0 : Value) (a1 : Value) (h : H) : runK Ty F (lvT 71) (jvT 71) NN FU Go.Proofs.Tryz.f71 [a0, a1] h = F71 F a0 a1 h := by kernel_rfl
def F72 (F : FK) (a0 : Value) (h0 : H) : Rz :=
  bxK 40 a0 h0 fun t1 h1 =>
  alK 75 ty75 h1 fun t2 h2 =>
  alK 3 ty3 h2 fun t3 h3 =>
  bH (st ty3 h3 t3 (.int .i64 0)) fun h4 =>
  dyK F (.func (.func 147) #[] #[t1, t3]) [(.int .i64 4)] h4 fun t4 h5 =>
  dyK F (.func (.func 147) #[] #[t1, t3]) [(.int .i64 2)] h5 fun t5 h6 =>
  bV (aConv Ty 3 t5) fun t6 =>
  dyK F (.func (.func 147) #[] #[t1, t3]) [(.int .i64 4)] h6 fun t7 h7 =>
  bV (aConv Ty 3 t7) fun t8 =>
  bV (aBuild Ty 75 [(0, t4), (1, t6), (2, t8)]) fun t9 =>
  alK 75 ty75 h7 fun t10 h8 =>
  bH (st ty75 h8 t10 t9) fun h9 =>
  lpK (Value → Value → Value → Value → Value → Value → H → Rz) (fun _ _ _ _ _ _ _ => none) (fun j1 => fun t11 t12 t13 t14 t15 t16 h10 =>
  bV (aBin Ty .lss 3 t16 (.int .i64 4)) fun t17 =>
  cdK t17 (dyK F t14 [(.int .i64 2)] h10 fun t18 h11 =>
  bV (aConv Ty 3 t18) fun t19 =>
  bV (aBin Ty .sub 3 t19 (.int .i64 1)) fun t20 =>
  bV (fa 3 t15) fun t21 =>
  bV (aIndexAddr Ty 73 t21 t16) fun t22 =>
  bH (st ty3 h11 t22 t20) fun h12 =>
  bV (aBin Ty .add 3 t16 (.int .i64 1)) fun t23 =>
  j1 t11 t12 t13 t14 t15 t23 h12)
  (dyK F t14 [(.int .i64 2)] h10 fun t24 h13 =>
  bV (aConv Ty 3 t24) fun t25 =>
  bV (aBin Ty .sub 3 t25 (.int .i64 1)) fun t26 =>
  bV (fa 7 t15) fun t27 =>
  bH (st ty3 h13 t27 t26) fun h14 =>
  dyK F t14 [(.int .i64 1)] h14 fun t28 h15 =>
  bV (aConv Ty 3 t28) fun t29 =>
  bV (fa 1 t11) fun t30 =>
  bV (ld ty3 h15 t13) fun t31 =>
  bV (ld ty3 h15 t13) fun t32 =>
  bV (aBin Ty .add 3 t32 t29) fun t33 =>
  bV (aMin2 t33 (.int .i64 56)) fun t34 =>
  bV (aSlice Ty 38 t30 (some t31) (some t34) none) fun t35 =>
  bVH (cvK Ty 22 9 t35 h15) fun t36 h16 =>
  bV (fa 8 t15) fun t37 =>
  bH (st ty9 h16 t37 t36) fun h17 =>
  bV (fa 0 t11) fun t38 =>
  bV (ld ty3 h17 t38) fun t39 =>
  bV (ld ty75 h17 t15) fun t40 =>
  bVH (F 148 [t39, t40] h17) fun t41 h18 =>
  bV (aExtract t41 0) fun t42 =>
  bV (aExtract t41 1) fun t43 =>
  alK 40 ty40 h18 fun t44 h19 =>
  bH (st ty40 h19 t44 t42) fun h20 =>
  guardV t43 true (fun k => bV (ld ty40 h20 t44) fun t46 =>
  k t46 h20) h20 fun t45 h21 =>
  guardV t43 true (fun k => bV (ld ty40 h21 t11) fun t48 =>
  k t48 h21) h21 fun t47 h22 =>
  guardV t43 true (fun k => bV (aBin Ty .eql 40 t45 t47) fun t50 =>
  k t50 h22) h22 fun t49 h23 =>
  pickK t43 t49 (.bool false) fun t51 =>
  cdK t51 (bV (ld ty75 h23 t15) fun t52 =>
  bH (st ty75 h23 t12 t52) fun h24 =>
  bV (ld ty75 h24 t12) fun t53 =>
  some (.tuple #[t53, (.bool true)], h24))
  (bV (aBuild Ty 75 []) fun t54 =>
  bH (st ty75 h23 t12 t54) fun h25 =>
  bV (ld ty75 h25 t12) fun t55 =>
  some (.tuple #[t55, (.bool false)], h25)))) NN t1 t2 t3 (.func (.func 147) #[] #[t1, t3]) t10 (.int .i64 0) h9
theorem e72 (F : FK) (a0 : Value) (h : H) : runK Ty F (lvT 72) (jvT 72) NN FU Go.Proofs.Tryz.f72 [a0] h = F72 F a0 h := by kernel_rfl
def F73 (F : FK) (a0 : Value) (h0 : H) : Rz :=
  bV (aBin Ty .eql 139 a0 (.pointer none)) fun t1 =>
  cdK t1 (some ((.pointer none), h0))
  (mmK 205 h0 fun t2 h1 =>
  mmK 207 h1 fun t3 h2 =>
  bV (aBuild Ty 216 [(0, a0), (1, t2), (2, t3)]) fun t4 =>
  bxK 216 t4 h2 fun t5 h3 =>
  some (t5, h3))
theorem e73 (F : FK) (a0 : Value) (h : H) : runK Ty F (lvT 73) (jvT 73) NN FU Go.Proofs.Tryz.f73 [a0] h = F73 F a0 h := by kernel_rfl
def F74 (F : FK) (a0 : Value) (a1 : Value) (h0 : H) : Rz :=
  bV (aBuild Ty 40 [(0, (.int .i64 0))]) fun t1 =>
  bVH (F 87 [a0, a1, t1] h0) fun t2 h1 =>
  some (.tuple #[], h1)
theorem e74 (F : FK) (a0 : Value) (a1 : Value) (h : H) : runK Ty F (lvT 74) (jvT 74) NN FU Go.Proofs.Tryz.f74 [a0, a1] h = F74 F a0 a1 h := by kernel_rfl
def F75 (F : FK) (a0 : Value) (h0 : H) : Rz :=
  bV (aBin Ty .eql 147 a0 (.pointer none)) fun t1 =>
  cdK t1 (some ((.int .i64 1), h0))
  (jn (Value → H → Rz) (fun t2 h1 =>
  bV (aNilCheck t2) fun t3 =>
  bV (fa 1 t3) fun t4 =>
  bV (ld ty205 h1 t4) fun t5 =>
  bH (aClear Ty h1 205 t5) fun h2 =>
  bV (aNilCheck t2) fun t6 =>
  bV (fa 2 t6) fun t7 =>
  bV (ld ty207 h2 t7) fun t8 =>
  bH (aClear Ty h2 207 t8) fun h3 =>
  some ((.int .i64 0), h3)) fun j1 =>
  bV (aNilCheck a0) fun t9 =>
  bV (fa 1 t9) fun t10 =>
  bV (ld ty205 h0 t10) fun t11 =>
  bV (aLen Ty h0 205 t11) fun t12 =>
  bV (aBin Ty .gtr 3 t12 (.int .i64 0)) fun t13 =>
  cdK t13 (lwK h0 (bV (aNilCheck a0) fun t14 =>
  bV (fa 0 t14) fun t15 =>
  psK h0 [t15] (bV (ld ty139 h0 t15) fun t16 =>
  caD (F 150 [a0] (lw0 h0)) h0 [t15] fun t17 h4 h5 =>
  caD (F 149 [t16, t17] (lw0 h5)) h5 [] fun t18 h6 h7 =>
  bV (aBin Ty .neq 46 t18 (.int .i64 0)) fun t19 =>
  cdK t19 (some (t18, h7))
  (j1 a0 h7))))
  (j1 a0 h0))
theorem e75 (F : FK) (a0 : Value) (h : H) : runK Ty F (lvT 75) (jvT 75) NN FU Go.Proofs.Tryz.f75 [a0] h = F75 F a0 h := by kernel_rfl
def F79 (F : FK) (a0 : Value) (h0 : H) : Rz :=
  bV (aBin Ty .eql 9 a0 (.string ⟨#[46]⟩)) fun t1 =>
  guardV t1 false (fun k => k a0 h0) h0 fun t2 h1 =>
  guardV t1 false (fun k => bV (aBin Ty .eql 9 t2 (.string ⟨#[46, 46]⟩)) fun t4 =>
  k t4 h1) h1 fun t3 h2 =>
  pickK t1 (.bool true) t3 fun t5 =>
  cdK t5 (some ((.bool false), h2))
  (bV (aLen Ty h2 9 a0) fun t6 =>
  bV (aBin Ty .geq 3 t6 (.int .i64 1)) fun t7 =>
  guardV t7 true (fun k => k a0 h2) h2 fun t8 h3 =>
  guardV t7 true (fun k => bV (aLen Ty h3 9 t8) fun t10 =>
  k t10 h3) h3 fun t9 h4 =>
  guardV t7 true (fun k => bV (aBin Ty .leq 3 t9 (.int .i64 14)) fun t12 =>
  k t12 h4) h4 fun t11 h5 =>
  pickK t7 t11 (.bool false) fun t13 =>
  guardV t13 true (fun k => k a0 h5) h5 fun t14 h6 =>
  guardV t13 true (fun k => bVH (F 157 [t14, (.func (.func 158) #[] #[])] h6) fun t16 h8 =>
  k t16 h8) h6 fun t15 h7 =>
  guardV t13 true (fun k => bV (aUn .not t15) fun t18 =>
  k t18 h7) h7 fun t17 h9 =>
  pickK t13 t17 (.bool false) fun t19 =>
  some (t19, h9))
theorem e79 (F : FK) (a0 : Value) (h : H) : runK Ty F (lvT 79) (jvT 79) NN FU Go.Proofs.Tryz.f79 [a0] h = F79 F a0 h := by kernel_rfl
def F80 (F : FK) (a0 : Value) (h0 : H) : Rz :=
  bxK 56 a0 h0 fun t1 h1 =>
  bV (ld ty56 h1 t1) fun t2 =>
  bVH (F 159 [t2] h1) fun t3 h2 =>
  lwK h2 (psK h2 [t1] (bV (ld ty56 h2 t1) fun t4 =>
  caD (F 160 [] (lw0 h2)) h2 [t1] fun t5 h3 h4 =>
  bV (aBin Ty .eql 56 t4 t5) fun t6 =>
  guardV t6 false (fun k => k t3 h4) h4 fun t7 h5 =>
  guardV t6 false (fun k => bV (aReal t7) fun t9 =>
  k t9 h5) h5 fun t8 h6 =>
  guardD t6 false (fun k => caD (F 161 [t8, (.int .i64 0), (.int .i64 8)] (lw0 h6)) h6 [] k) h6 fun t10 h7 h8 =>
  guardV t6 false (fun k => k t10 h8) h8 fun t11 h9 =>
  guardV t11 true (fun k => k t3 h9) h9 fun t12 h10 =>
  guardV t11 true (fun k => bV (aImag t12) fun t14 =>
  k t14 h10) h10 fun t13 h11 =>
  guardD t11 true (fun k => caD (F 161 [t13, (.int .i64 1), (.int .i64 200)] (lw0 h11)) h11 [] k) h11 fun t15 h12 h13 =>
  guardV t6 false (fun k => pickK t11 t15 (.bool false) fun t17 =>
  k t17 h13) h13 fun t16 h14 =>
  guardV t6 false (fun k => k t16 h14) h14 fun t18 h15 =>
  guardV t18 true (fun k => bV (fa 2 t1) fun t20 =>
  k t20 h15) h15 fun t19 h16 =>
  guardV t18 true (fun k => psK h16 [t19] (bV (ld ty54 h16 t19) fun t22 =>
  k t22 h16)) h16 fun t21 h17 =>
  guardV t18 true (fun k => bV (aBin Ty .geq 54 t21 (.int .u32 1)) fun t24 =>
  k t24 h17) h17 fun t23 h18 =>
  guardV t6 false (fun k => pickK t18 t23 (.bool false) fun t26 =>
  k t26 h18) h18 fun t25 h19 =>
  pickK t6 (.bool true) t25 fun t27 =>
  some (t27, h19)))
theorem e80 (F : FK) (a0 : Value) (h : H) : runK Ty F (lvT 80) (jvT 80) NN FU Go.Proofs.Tryz.f80 [a0] h = F80 F a0 h := by kernel_rfl
def F81 (F : FK) (a0 : Value) (a1 : Value) (a2 : Value) (h0 : H) : Rz :=
  alK 40 ty40 h0 fun t1 h1 =>
  bV (aLen Ty h1 9 a2) fun t2 =>
  bV (aBuild Ty 75 [(0, a1), (1, (.int .i64 1)), (2, t2), (4, (.int .i64 (-1))), (5, a2)]) fun t3 =>
  alK 75 ty75 h1 fun t4 h2 =>
  bH (st ty75 h2 t4 t3) fun h3 =>
  lpK (Value → Value → Value → Value → H → Rz) (fun _ _ _ _ _ => none) (fun j1 => fun t5 t6 t7 t8 h4 =>
  bV (aBin Ty .lss 3 t8 (.int .i64 4)) fun t9 =>
  cdK t9 (bV (fa 3 t7) fun t10 =>
  bV (aIndexAddr Ty 73 t10 t8) fun t11 =>
  bH (st ty3 h4 t11 (.int .i64 (-1))) fun h5 =>
  bV (aBin Ty .add 3 t8 (.int .i64 1)) fun t12 =>
  j1 t5 t6 t7 t12 h5)
  (bV (ld ty75 h4 t7) fun t13 =>
  bVH (F 148 [t5, t13] h4) fun t14 h6 =>
  bV (aExtract t14 0) fun t15 =>
  bV (aExtract t14 1) fun t16 =>
  bH (st ty40 h6 t6 t15) fun h7 =>
  bV (ld ty40 h7 t6) fun t17 =>
  some (.tuple #[t17, t16], h7))) NN a0 t1 t4 (.int .i64 0) h3
theorem e81 (F : FK) (a0 : Value) (a1 : Value) (a2 : Value) (h : H) : runK Ty F (lvT 81) (jvT 81) NN FU Go.Proofs.Tryz.f81 [a0, a1, a2] h = F81 F a0 a1 a2 h := by kernel_rfl
def F82 (F : FK) (a0 : Value) (a1 : Value) (a2 : Value) (h0 : H) : Rz :=
  bxK 56 a2 h0 fun t1 h1 =>
  bV (ld ty56 h1 t1) fun t2 =>
  bVH (F 91 [a0, a1, t2] h1) fun t3 h2 =>
  bV (aExtract t3 0) fun t4 =>
  bV (aExtract t3 1) fun t5 =>
  bV (aExtract t3 2) fun t6 =>
  alK 75 ty75 h2 fun t7 h3 =>
  bH (st ty75 h3 t7 t5) fun h4 =>
  lwK h4 (bV (fa 0 t1) fun t8 =>
  psK h4 [t8] (bV (ld ty3 h4 t8) fun t9 =>
  bV (aNilCheck a0) fun t10 =>
  bV (fa 1 t10) fun t11 =>
  psK h4 [t11] (bV (ld ty3 h4 t11) fun t12 =>
  bV (aBin Ty .eql 3 t9 t12) fun t13 =>
  guardV t13 true (fun k => k t4 h4) h4 fun t14 h5 =>
  guardV t13 true (fun k => bV (aBin Ty .neq 3 t14 (.int .i64 2)) fun t16 =>
  k t16 h5) h5 fun t15 h6 =>
  pickK t13 t15 (.bool false) fun t17 =>
  cdK t17 (some ((.int .i64 2), h6))
  (some ((.int .i64 0), h6)))))
theorem e82 (F : FK) (a0 : Value) (a1 : Value) (a2 : Value) (h : H) : runK Ty F (lvT 82) (jvT 82) NN FU Go.Proofs.Tryz.f82 [a0, a1, a2] h = F82 F a0 a1 a2 h := by kernel_rfl
def F83 (F : FK) (a0 : Value) (a1 : Value) (a2 : Value) (h0 : H) : Rz :=
  bxK 56 a1 h0 fun t1 h1 =>
  alK 159 ty159 h1 fun t2 h2 =>
  bVH (F 162 [a0] h2) fun t3 h3 =>
  bV (aExtract t3 0) fun t4 =>
  bV (aExtract t3 1) fun t5 =>
  bV (aLen Ty h3 168 t4) fun t6 =>
  lpK (Value → Value → Value → Value → Value → Value → Value → H → Rz) (fun _ _ _ _ _ _ _ _ => none) (fun j1 => fun t7 t8 t9 t10 t11 t12 t13 h4 =>
  bV (aBin Ty .lss 3 t13 t12) fun t14 =>
  cdK t14 (bV (aIndexAddr Ty 168 t11 t13) fun t15 =>
  bV (ld ty159 h4 t15) fun t16 =>
  alK 159 ty159 h4 fun t17 h5 =>
  bH (st ty159 h5 t17 t16) fun h6 =>
  bV (fa 0 t17) fun t18 =>
  bV (ld ty56 h6 t18) fun t19 =>
  bV (ld ty56 h6 t8) fun t20 =>
  bV (aBin Ty .eql 56 t19 t20) fun t21 =>
  guardV t21 true (fun k => bV (fa 3 t17) fun t23 =>
  k t23 h6) h6 fun t22 h7 =>
  guardV t21 true (fun k => bV (ld ty9 h7 t22) fun t25 =>
  k t25 h7) h7 fun t24 h8 =>
  guardV t21 true (fun k => k t7 h8) h8 fun t26 h9 =>
  guardV t21 true (fun k => bV (aBin Ty .eql 9 t24 t26) fun t28 =>
  k t28 h9) h9 fun t27 h10 =>
  pickK t21 t27 (.bool false) fun t29 =>
  cdK t29 (lwK h10 (psK h10 [t17] (bV (ld ty159 h10 t17) fun t30 =>
  bV (aIndexAddr Ty 87 t10 t13) fun t31 =>
  psK h10 [t31] (bV (ld ty3 h10 t31) fun t32 =>
  psK h10 [t9] (ckK [t9] [] [] [t31] (bH (st ty159 h10 t9 t30) fun h11 =>
  bV (ld ty159 h11 t9) fun t33 =>
  some (.tuple #[t33, t32, (.bool true)], h11)))))))
  (bV (aBin Ty .add 3 t13 (.int .i64 1)) fun t34 =>
  j1 t7 t8 t9 t10 t11 t12 t34 h10))
  (bV (aBuild Ty 159 []) fun t35 =>
  bH (st ty159 h4 t9 t35) fun h12 =>
  bV (ld ty159 h12 t9) fun t36 =>
  some (.tuple #[t36, (.int .i64 0), (.bool false)], h12))) NN a2 t1 t2 t5 t4 t6 (.int .i64 0) h3
theorem e83 (F : FK) (a0 : Value) (a1 : Value) (a2 : Value) (h : H) : runK Ty F (lvT 83) (jvT 83) NN FU Go.Proofs.Tryz.f83 [a0, a1, a2] h = F83 F a0 a1 a2 h := by kernel_rfl
def F84 (F : FK) (a0 : Value) (h0 : H) : Rz :=
  bVH (F 163 [a0, (.int .i64 0)] h0) fun t1 h1 =>
  bV (aExtract t1 0) fun t2 =>
  bV (aExtract t1 1) fun t3 =>
  alK 40 ty40 h1 fun t4 h2 =>
  bH (st ty40 h2 t4 t2) fun h3 =>
  bV (fa 1 t4) fun t5 =>
  bV (aSlice Ty 38 t5 none (some (.int .i64 4)) none) fun t6 =>
  bV (aLen Ty h3 22 t6) fun t7 =>
  lpK (Value → Value → Value → Value → H → Rz) (fun _ _ _ _ _ => none) (fun j1 => fun t8 t9 t10 t11 h4 =>
  bV (aBin Ty .lss 3 t11 t10) fun t12 =>
  cdK t12 (bV (aIndexAddr Ty 22 t9 t11) fun t13 =>
  bV (ld ty5 h4 t13) fun t14 =>
  bV (aBin Ty .shl 54 t8 (.int .u64 8)) fun t15 =>
  bV (aConv Ty 54 t14) fun t16 =>
  bV (aBin Ty .or 54 t15 t16) fun t17 =>
  bV (aBin Ty .add 3 t11 (.int .i64 1)) fun t18 =>
  j1 t17 t9 t10 t18 h4)
  (some (t8, h4))) NN (.int .u32 0) t6 t7 (.int .i64 0) h3
theorem e84 (F : FK) (a0 : Value) (h : H) : runK Ty F (lvT 84) (jvT 84) NN FU Go.Proofs.Tryz.f84 [a0] h = F84 F a0 h := by kernel_rfl
def F85 (F : FK) (a0 : Value) (h0 : H) : Rz :=
  bV (aBin Ty .eql 147 a0 (.pointer none)) fun t1 =>
  cdK t1 (some ((.int .i64 0), h0))
  (bVH (F 164 [a0] h0) fun t2 h1 =>
  bVH (F 165 [t2] h1) fun t3 h2 =>
  some (t3, h2))
theorem e85 (F : FK) (a0 : Value) (h : H) : runK Ty F (lvT 85) (jvT 85) NN FU Go.Proofs.Tryz.f85 [a0] h = F85 F a0 h := by kernel_rfl
def F86 (F : FK) (a0 : Value) (h0 : H) : Rz :=
  bV (aBin Ty .eql 147 a0 (.pointer none)) fun t1 =>
  cdK t1 (some (.tuple #[(.int .i64 0), (.bool false)], h0))
  (bVH (F 164 [a0] h0) fun t2 h1 =>
  bVH (F 166 [t2] h1) fun t3 h2 =>
  bV (aExtract t3 0) fun t4 =>
  bV (aExtract t3 1) fun t5 =>
  jn (Value → Value → H → Rz) (fun t6 t7 h3 =>
  some (.tuple #[t6, t7], h3)) fun j1 =>
  cdK t5 (bV (aNilCheck a0) fun t8 =>
  bV (fa 2 t8) fun t9 =>
  bV (ld ty207 h2 t9) fun t10 =>
  bH (aMapUpdate Ty h2 207 t10 t4 (.bool true)) fun h4 =>
  j1 t4 t5 h4)
  (j1 t4 t5 h2))
theorem e86 (F : FK) (a0 : Value) (h : H) : runK Ty F (lvT 86) (jvT 86) NN FU Go.Proofs.Tryz.f86 [a0] h = F86 F a0 h := by kernel_rfl
def F87 (F : FK) (a0 : Value) (a1 : Value) (a2 : Value) (h0 : H) : Rz :=
  bxK 40 a2 h0 fun t1 h1 =>
  bV (aBin Ty .eql 147 a0 (.pointer none)) fun t2 =>
  guardV t2 false (fun k => k a1 h1) h1 fun t3 h2 =>
  guardV t2 false (fun k => bV (aBin Ty .lss 3 t3 (.int .i64 0)) fun t5 =>
  k t5 h2) h2 fun t4 h3 =>
  pickK t2 (.bool true) t4 fun t6 =>
  guardV t6 false (fun k => k a1 h3) h3 fun t7 h4 =>
  guardV t6 false (fun k => k a0 h4) h4 fun t8 h5 =>
  guardV t6 false (fun k => bV (aNilCheck t8) fun t10 =>
  k t10 h5) h5 fun t9 h6 =>
  guardV t6 false (fun k => bV (fa 0 t9) fun t12 =>
  k t12 h6) h6 fun t11 h7 =>
  guardV t6 false (fun k => bV (ld ty139 h7 t11) fun t14 =>
  k t14 h7) h7 fun t13 h8 =>
  guardV t6 false (fun k => bVH (F 97 [t13] h8) fun t16 h10 =>
  k t16 h10) h8 fun t15 h9 =>
  guardV t6 false (fun k => bV (aBin Ty .geq 3 t7 t15) fun t18 =>
  k t18 h9) h9 fun t17 h11 =>
  pickK t6 (.bool true) t17 fun t19 =>
  cdK t19 (some ((.bool false), h11))
  (lwK h11 (bV (aNilCheck a0) fun t20 =>
  bV (fa 1 t20) fun t21 =>
  psK h11 [t21] (bV (ld ty205 h11 t21) fun t22 =>
  psK h11 [t1] (bV (ld ty40 h11 t1) fun t23 =>
  psK h11 [t22] (bH (aMapUpdate Ty h11 205 t22 a1 t23) fun h12 =>
  some ((.bool true), h12))))))
theorem e87 (F : FK) (a0 : Value) (a1 : Value) (a2 : Value) (h : H) : runK Ty F (lvT 87) (jvT 87) NN FU Go.Proofs.Tryz.f87 [a0, a1, a2] h = F87 F a0 a1 a2 h := by kernel_rfl
def F88 (F : FK) (a0 : Value) (a1 : Value) (h0 : H) : Rz :=
  bV (aBuild Ty 40 [(0, (.int .i64 7))]) fun t1 =>
  alK 40 ty40 h0 fun t2 h1 =>
  bH (st ty40 h1 t2 t1) fun h2 =>
  bV (fa 1 t2) fun t3 =>
  bV (aSlice Ty 38 t3 none none none) fun t4 =>
  bV (aBin Ty .shr 54 a1 (.int .u64 24)) fun t5 =>
  bV (aConv Ty 5 t5) fun t6 =>
  bV (aBin Ty .shr 54 a1 (.int .u64 16)) fun t7 =>
  bV (aConv Ty 5 t7) fun t8 =>
  bV (aBin Ty .shr 54 a1 (.int .u64 8)) fun t9 =>
  bV (aConv Ty 5 t9) fun t10 =>
  bV (aConv Ty 5 a1) fun t11 =>
  bVH (aBuildSlice Ty h2 22 4 [(0, t6), (1, t8), (2, t10), (3, t11)]) fun t12 h3 =>
  bVH (cpK Ty h3 22 t4 t12) fun t13 h4 =>
  bV (ld ty40 h4 t2) fun t14 =>
  bVH (F 87 [a0, (.int .i64 0), t14] h4) fun t15 h5 =>
  some (.tuple #[], h5)
theorem e88 (F : FK) (a0 : Value) (a1 : Value) (h : H) : runK Ty F (lvT 88) (jvT 88) NN FU Go.Proofs.Tryz.f88 [a0, a1] h = F88 F a0 a1 h := by kernel_rfl
def F89 (F : FK) (a0 : Value) (a1 : Value) (h0 : H) : Rz :=
  bxK 159 a1 h0 fun t1 h1 =>
  bV (ld ty159 h1 t1) fun t2 =>
  bVH (F 100 [t2] h1) fun t3 h2 =>
  bV (aExtract t3 0) fun t4 =>
  bV (aExtract t3 1) fun t5 =>
  alK 40 ty40 h2 fun t6 h3 =>
  bH (st ty40 h3 t6 t4) fun h4 =>
  bV (aUn .not t5) fun t7 =>
  cdK t7 (some ((.int .i64 1), h4))
  (bV (fa 0 t1) fun t8 =>
  bV (ld ty56 h4 t8) fun t9 =>
  bV (fa 3 t1) fun t10 =>
  bV (ld ty9 h4 t10) fun t11 =>
  bVH (F 83 [a0, t9, t11] h4) fun t12 h5 =>
  bV (aExtract t12 0) fun t13 =>
  bV (aExtract t12 1) fun t14 =>
  bV (aExtract t12 2) fun t15 =>
  alK 159 ty159 h5 fun t16 h6 =>
  bH (st ty159 h6 t16 t13) fun h7 =>
  cdK t15 (some ((.int .i64 4), h7))
  (bVH (F 86 [a0] h7) fun t17 h8 =>
  bV (aExtract t17 0) fun t18 =>
  bV (aExtract t17 1) fun t19 =>
  bV (aUn .not t19) fun t20 =>
  cdK t20 (some ((.int .i64 9), h8))
  (bV (ld ty40 h8 t6) fun t21 =>
  bVH (F 87 [a0, t18, t21] h8) fun t22 h9 =>
  some ((.int .i64 0), h9))))
theorem e89 (F : FK) (a0 : Value) (a1 : Value) (h : H) : runK Ty F (lvT 89) (jvT 89) NN FU Go.Proofs.Tryz.f89 [a0, a1] h = F89 F a0 a1 h := by kernel_rfl
def F90 (F : FK) (a0 : Value) (a1 : Value) (h0 : H) : Rz :=
  bxK 56 a1 h0 fun t1 h1 =>
  bVH (F 162 [a0] h1) fun t2 h2 =>
  bV (aExtract t2 0) fun t3 =>
  bV (aExtract t2 1) fun t4 =>
  bVH (F 167 [t3, (.func (.func 168) #[] #[t1])] h2) fun t5 h3 =>
  bVH (F 169 [t5, (.func (.func 170) #[] #[])] h3) fun t6 h4 =>
  some (t5, h4)
theorem e90 (F : FK) (a0 : Value) (a1 : Value) (h : H) : runK Ty F (lvT 90) (jvT 90) NN FU Go.Proofs.Tryz.f90 [a0, a1] h = F90 F a0 a1 h := by kernel_rfl
def F91 (F : FK) (a0 : Value) (a1 : Value) (a2 : Value) (h0 : H) : Rz :=
  bxK 56 a2 h0 fun t1 h1 =>
  alK 75 ty75 h1 fun t2 h2 =>
  bV (fa 1 t1) fun t3 =>
  bV (ld ty3 h2 t3) fun t4 =>
  bVH (F 93 [a1, t4] h2) fun t5 h3 =>
  bV (aExtract t5 0) fun t6 =>
  bV (aExtract t5 1) fun t7 =>
  bV (aExtract t5 2) fun t8 =>
  bH (st ty75 h3 t2 t7) fun h4 =>
  lwK h4 (bV (aUn .not t8) fun t9 =>
  guardV t9 false (fun k => bV (fa 0 t1) fun t11 =>
  k t11 h4) h4 fun t10 h5 =>
  guardV t9 false (fun k => psK h5 [t10] (bV (ld ty3 h5 t10) fun t13 =>
  k t13 h5)) h5 fun t12 h6 =>
  guardV t9 false (fun k => k a0 h6) h6 fun t14 h7 =>
  guardV t9 false (fun k => bV (aNilCheck t14) fun t16 =>
  k t16 h7) h7 fun t15 h8 =>
  guardV t9 false (fun k => bV (fa 1 t15) fun t18 =>
  k t18 h8) h8 fun t17 h9 =>
  guardV t9 false (fun k => psK h9 [t17] (bV (ld ty3 h9 t17) fun t20 =>
  k t20 h9)) h9 fun t19 h10 =>
  guardV t9 false (fun k => bV (aBin Ty .neq 3 t12 t19) fun t22 =>
  k t22 h10) h10 fun t21 h11 =>
  pickK t9 (.bool true) t21 fun t23 =>
  guardV t23 false (fun k => bV (fa 0 t2) fun t25 =>
  k t25 h11) h11 fun t24 h12 =>
  guardV t23 false (fun k => psK h12 [t24] (bV (ld ty54 h12 t24) fun t27 =>
  k t27 h12)) h12 fun t26 h13 =>
  guardV t23 false (fun k => bV (fa 2 t1) fun t29 =>
  k t29 h13) h13 fun t28 h14 =>
  guardV t23 false (fun k => psK h14 [t28] (bV (ld ty54 h14 t28) fun t31 =>
  k t31 h14)) h14 fun t30 h15 =>
  guardV t23 false (fun k => bV (aBin Ty .neq 54 t26 t30) fun t33 =>
  k t33 h15) h15 fun t32 h16 =>
  pickK t23 (.bool true) t32 fun t34 =>
  cdK t34 (bV (aBuild Ty 75 []) fun t35 =>
  bH (st ty75 h16 t2 t35) fun h17 =>
  bV (ld ty75 h17 t2) fun t36 =>
  some (.tuple #[(.int .i64 0), t36, (.bool false)], h17))
  (lwK h16 (psK h16 [t2] (bV (ld ty75 h16 t2) fun t37 =>
  psK h16 [t2] (bH (st ty75 h16 t2 t37) fun h18 =>
  bV (ld ty75 h18 t2) fun t38 =>
  some (.tuple #[t6, t38, (.bool true)], h18))))))
theorem e91 (F : FK) (a0 : Value) (a1 : Value) (a2 : Value) (h : H) : runK Ty F (lvT 91) (jvT 91) NN FU Go.Proofs.Tryz.f91 [a0, a1, a2] h = F91 F a0 a1 a2 h := by kernel_rfl
def F92 (F : FK) (a0 : Value) (a1 : Value) (a2 : Value) (a3 : Value) (h0 : H) : Rz :=
  bVH (F 93 [a0, a1] h0) fun t1 h1 =>
  bV (aExtract t1 0) fun t2 =>
  bV (aExtract t1 1) fun t3 =>
  bV (aExtract t1 2) fun t4 =>
  alK 75 ty75 h1 fun t5 h2 =>
  bH (st ty75 h2 t5 t3) fun h3 =>
  bV (fa 1 t5) fun t6 =>
  bV (ld ty3 h3 t6) fun t7 =>
  bV (aBin Ty .add 3 t7 a2) fun t8 =>
  bV (fa 1 t5) fun t9 =>
  bH (st ty3 h3 t9 t8) fun h4 =>
  bV (fa 1 t5) fun t10 =>
  bV (ld ty3 h4 t10) fun t11 =>
  bV (aBin Ty .eql 3 t11 (.int .i64 0)) fun t12 =>
  guardV t12 true (fun k => k t2 h4) h4 fun t13 h5 =>
  guardV t12 true (fun k => bV (aBin Ty .neq 3 t13 (.int .i64 1)) fun t15 =>
  k t15 h5) h5 fun t14 h6 =>
  guardV t12 true (fun k => k t14 h6) h6 fun t16 h7 =>
  guardV t16 false (fun k => k a3 h7) h7 fun t17 h8 =>
  guardV t16 false (fun k => bV (aUn .not t17) fun t19 =>
  k t19 h8) h8 fun t18 h9 =>
  guardV t12 true (fun k => pickK t16 (.bool true) t18 fun t21 =>
  k t21 h9) h9 fun t20 h10 =>
  pickK t12 t20 (.bool false) fun t22 =>
  cdK t22 (bVH (F 74 [a0, a1] h10) fun t23 h11 =>
  some (.tuple #[], h11))
  (bV (ld ty75 h10 t5) fun t24 =>
  bVH (F 148 [t2, t24] h10) fun t25 h12 =>
  bV (aExtract t25 0) fun t26 =>
  bV (aExtract t25 1) fun t27 =>
  alK 40 ty40 h12 fun t28 h13 =>
  bH (st ty40 h13 t28 t26) fun h14 =>
  bV (ld ty40 h14 t28) fun t29 =>
  bVH (F 87 [a0, a1, t29] h14) fun t30 h15 =>
  some (.tuple #[], h15))
theorem e92 (F : FK) (a0 : Value) (a1 : Value) (a2 : Value) (a3 : Value) (h : H) : runK Ty F (lvT 92) (jvT 92) NN FU Go.Proofs.Tryz.f92 [a0, a1, a2, a3] h = F92 F a0 a1 a2 a3 h := by kernel_rfl
def F93 (F : FK) (a0 : Value) (a1 : Value) (h0 : H) : Rz :=
  alK 75 ty75 h0 fun t1 h1 =>
  bVH (F 163 [a0, a1] h1) fun t2 h2 =>
  bV (aExtract t2 0) fun t3 =>
  bV (aExtract t2 1) fun t4 =>
  alK 40 ty40 h2 fun t5 h3 =>
  bH (st ty40 h3 t5 t3) fun h4 =>
  bV (ld ty40 h4 t5) fun t6 =>
  bVH (F 72 [t6] h4) fun t7 h5 =>
  bV (aExtract t7 0) fun t8 =>
  bV (aExtract t7 1) fun t9 =>
  bH (st ty75 h5 t1 t8) fun h6 =>
  bV (aUn .not t9) fun t10 =>
  cdK t10 (bV (aBuild Ty 75 []) fun t11 =>
  bH (st ty75 h6 t1 t11) fun h7 =>
  bV (ld ty75 h7 t1) fun t12 =>
  some (.tuple #[(.int .i64 0), t12, (.bool false)], h7))
  (lwK h6 (bV (fa 0 t5) fun t13 =>
  psK h6 [t13] (bV (ld ty3 h6 t13) fun t14 =>
  psK h6 [t1] (bV (ld ty75 h6 t1) fun t15 =>
  psK h6 [t1] (bH (st ty75 h6 t1 t15) fun h8 =>
  bV (ld ty75 h8 t1) fun t16 =>
  some (.tuple #[t14, t16, (.bool true)], h8))))))
theorem e93 (F : FK) (a0 : Value) (a1 : Value) (h : H) : runK Ty F (lvT 93) (jvT 93) NN FU Go.Proofs.Tryz.f93 [a0, a1] h = F93 F a0 a1 h := by kernel_rfl
def F94 (F : FK) (a0 : Value) (a1 : Value) (a2 : Value) (h0 : H) : Rz :=
  bxK 56 a1 h0 fun t1 h1 =>
  bV (ld ty56 h1 t1) fun t2 =>
  bVH (F 83 [a0, t2, a2] h1) fun t3 h2 =>
  bV (aExtract t3 0) fun t4 =>
  bV (aExtract t3 1) fun t5 =>
  bV (aExtract t3 2) fun t6 =>
  alK 159 ty159 h2 fun t7 h3 =>
  bH (st ty159 h3 t7 t4) fun h4 =>
  bV (aUn .not t6) fun t8 =>
  cdK t8 (some ((.int .i64 2), h4))
  (bV (aBuild Ty 40 [(0, (.int .i64 0))]) fun t9 =>
  bVH (F 87 [a0, t5, t9] h4) fun t10 h5 =>
  some ((.int .i64 0), h5))
theorem e94 (F : FK) (a0 : Value) (a1 : Value) (a2 : Value) (h : H) : runK Ty F (lvT 94) (jvT 94) NN FU Go.Proofs.Tryz.f94 [a0, a1, a2] h = F94 F a0 a1 a2 h := by kernel_rfl
def F95 (F : FK) (a0 : Value) (a1 : Value) (h0 : H) : Rz :=
  bxK 56 a1 h0 fun t1 h1 =>
  bV (aBin Ty .eql 29 a0 (.pointer none)) fun t2 =>
  cdK t2 (some (.tuple #[(.pointer none), (.int .i64 1)], h1))
  (bV (aNilCheck a0) fun t3 =>
  bV (fa 0 t3) fun t4 =>
  bV (ld ty139 h1 t4) fun t5 =>
  bVH (F 73 [t5] h1) fun t6 h2 =>
  bV (ld ty56 h2 t1) fun t7 =>
  bVH (F 91 [a0, t6, t7] h2) fun t8 h3 =>
  bV (aExtract t8 0) fun t9 =>
  bV (aExtract t8 1) fun t10 =>
  bV (aExtract t8 2) fun t11 =>
  alK 75 ty75 h3 fun t12 h4 =>
  bH (st ty75 h4 t12 t10) fun h5 =>
  bV (aBin Ty .neq 3 t9 (.int .i64 1)) fun t13 =>
  cdK t13 (some (.tuple #[(.pointer none), (.int .i64 12)], h5))
  (some (.tuple #[t6, (.int .i64 0)], h5)))
theorem e95 (F : FK) (a0 : Value) (a1 : Value) (h : H) : runK Ty F (lvT 95) (jvT 95) NN FU Go.Proofs.Tryz.f95 [a0, a1] h = F95 F a0 a1 h := by kernel_rfl
def F96 (F : FK) (a0 : Value) (a1 : Value) (a2 : Value) (a3 : Value) (h0 : H) : Rz :=
  jn ((Value → Value → Value → Value → Value → Value → H → Rz) × Unit) (lpK ((Value → Value → Value → Value → Value → Value → H → Rz) × Unit) (fun _ _ _ _ _ _ _ => none, ()) (fun j1 => (fun t1 t2 t3 t4 t5 t6 h1 =>
  bV (aLen Ty h1 243 t5) fun t7 =>
  bV (aBin Ty .lss 3 t6 t7) fun t8 =>
  cdK t8 (bV (aIndexAddr Ty 243 t5 t6) fun t9 =>
  bV (ld ty246 h1 t9) fun t10 =>
  alK 246 ty246 h1 fun t11 h2 =>
  bH (st ty246 h2 t11 t10) fun h3 =>
  bV (fa 0 t11) fun t12 =>
  bV (ld ty3 h3 t12) fun t13 =>
  bVH (F 174 [t4, t13] h3) fun t14 h4 =>
  bV (aExtract t14 0) fun t15 =>
  bV (aExtract t14 1) fun t16 =>
  bV (aUn .not t16) fun t17 =>
  cdK t17 (some (.tuple #[(.int .i64 0), (.int .i64 9)], h4))
  (bVH (F 163 [t1, t15] h4) fun t18 h5 =>
  bV (aExtract t18 0) fun t19 =>
  bV (aExtract t18 1) fun t20 =>
  alK 40 ty40 h5 fun t21 h6 =>
  bH (st ty40 h6 t21 t19) fun h7 =>
  lwK h7 (bV (fa 1 t21) fun t22 =>
  bV (fa 1 t11) fun t23 =>
  psK h7 [t23] (bV (ld ty3 h7 t23) fun t24 =>
  bV (fa 2 t11) fun t25 =>
  psK h7 [t25] (bV (ld ty3 h7 t25) fun t26 =>
  bV (aSlice Ty 38 t22 (some t24) (some t26) none) fun t27 =>
  bV (fa 0 t11) fun t28 =>
  psK h7 [t28] (bV (ld ty3 h7 t28) fun t29 =>
  bV (aBin Ty .mul 3 t29 (.int .i64 56)) fun t30 =>
  bV (fa 1 t11) fun t31 =>
  psK h7 [t31] (bV (ld ty3 h7 t31) fun t32 =>
  bV (aBin Ty .add 3 t30 t32) fun t33 =>
  bV (aBin Ty .sub 3 t33 t2) fun t34 =>
  bV (aSlice Ty 22 t3 (some t34) none none) fun t35 =>
  psK h7 [t27, t35] (bVH (cpK Ty h7 22 t27 t35) fun t36 h8 =>
  bV (ld ty40 h8 t21) fun t37 =>
  bVH (F 87 [t1, t15, t37] h8) fun t38 h9 =>
  bV (aBin Ty .add 3 t6 (.int .i64 1)) fun t39 =>
  j1.1 t1 t2 t3 t4 t5 t39 h9))))))))
  (bV (aLen Ty h1 243 t5) fun t40 =>
  bV (aBin Ty .sub 3 t40 (.int .i64 1)) fun t41 =>
  bV (aIndexAddr Ty 243 t5 t41) fun t42 =>
  bV (ld ty246 h1 t42) fun t43 =>
  alK 246 ty246 h1 fun t44 h10 =>
  bH (st ty246 h10 t44 t43) fun h11 =>
  bV (fa 0 t44) fun t45 =>
  bV (ld ty3 h11 t45) fun t46 =>
  bV (aBin Ty .mul 3 t46 (.int .i64 56)) fun t47 =>
  bV (fa 2 t44) fun t48 =>
  bV (ld ty3 h11 t48) fun t49 =>
  bV (aBin Ty .add 3 t47 t49) fun t50 =>
  bV (aNilCheck t4) fun t51 =>
  bV (fa 2 t51) fun t52 =>
  bV (fa 2 t52) fun t53 =>
  bV (ld ty3 h11 t53) fun t54 =>
  bV (aMax2 t54 t50) fun t55 =>
  bV (aNilCheck t4) fun t56 =>
  bV (fa 2 t56) fun t57 =>
  bV (fa 2 t57) fun t58 =>
  bH (st ty3 h11 t58 t55) fun h12 =>
  bVH (F 175 [t4] h12) fun t59 h13 =>
  bV (aBin Ty .sub 3 t50 t2) fun t60 =>
  some (.tuple #[t60, (.int .i64 0)], h13)), ())) NN) fun j2 =>
  bVH (F 172 [a0, a1] h0) fun t61 h14 =>
  bV (aExtract t61 0) fun t62 =>
  bV (aExtract t61 1) fun t63 =>
  bV (aUn .not t63) fun t64 =>
  cdK t64 (some (.tuple #[(.int .i64 0), (.int .i64 2)], h14))
  (bV (aBin Ty .lss 3 a2 (.int .i64 0)) fun t65 =>
  cdK t65 (some (.tuple #[(.int .i64 0), (.int .i64 1)], h14))
  (bV (aLen Ty h14 22 a3) fun t66 =>
  bV (aBin Ty .eql 3 t66 (.int .i64 0)) fun t67 =>
  cdK t67 (some (.tuple #[(.int .i64 0), (.int .i64 0)], h14))
  (bV (aBin Ty .geq 3 a2 (.int .i64 1120)) fun t68 =>
  cdK t68 (some (.tuple #[(.int .i64 0), (.int .i64 13)], h14))
  (bV (aLen Ty h14 22 a3) fun t69 =>
  bV (aBin Ty .sub 3 (.int .i64 1120) a2) fun t70 =>
  bV (aMin2 t69 t70) fun t71 =>
  bVH (F 173 [a2, t71] h14) fun t72 h15 =>
  bV (aLen Ty h15 243 t72) fun t73 =>
  bV (aMin2 t73 (.int .i64 4)) fun t74 =>
  bV (aSlice Ty 243 t72 none (some t74) none) fun t75 =>
  bV (aLen Ty h15 243 t75) fun t76 =>
  bV (aBin Ty .lss 3 (.int .i64 0) t76) fun t77 =>
  cdK t77 (bV (aIndexAddr Ty 243 t75 (.int .i64 0)) fun t78 =>
  bV (ld ty246 h15 t78) fun t79 =>
  alK 246 ty246 h15 fun t80 h16 =>
  bH (st ty246 h16 t80 t79) fun h17 =>
  bV (fa 0 t80) fun t81 =>
  bV (ld ty3 h17 t81) fun t82 =>
  bVH (F 174 [t62, t82] h17) fun t83 h18 =>
  bV (aExtract t83 0) fun t84 =>
  bV (aExtract t83 1) fun t85 =>
  bV (aUn .not t85) fun t86 =>
  cdK t86 (some (.tuple #[(.int .i64 0), (.int .i64 9)], h18))
  (bVH (F 163 [a0, t84] h18) fun t87 h19 =>
  bV (aExtract t87 0) fun t88 =>
  bV (aExtract t87 1) fun t89 =>
  alK 40 ty40 h19 fun t90 h20 =>
  bH (st ty40 h20 t90 t88) fun h21 =>
  lwK h21 (bV (fa 1 t90) fun t91 =>
  bV (fa 1 t80) fun t92 =>
  psK h21 [t92] (bV (ld ty3 h21 t92) fun t93 =>
  bV (fa 2 t80) fun t94 =>
  psK h21 [t94] (bV (ld ty3 h21 t94) fun t95 =>
  bV (aSlice Ty 38 t91 (some t93) (some t95) none) fun t96 =>
  bV (fa 0 t80) fun t97 =>
  psK h21 [t97] (bV (ld ty3 h21 t97) fun t98 =>
  bV (aBin Ty .mul 3 t98 (.int .i64 56)) fun t99 =>
  bV (fa 1 t80) fun t100 =>
  psK h21 [t100] (bV (ld ty3 h21 t100) fun t101 =>
  bV (aBin Ty .add 3 t99 t101) fun t102 =>
  bV (aBin Ty .sub 3 t102 a2) fun t103 =>
  bV (aSlice Ty 22 a3 (some t103) none none) fun t104 =>
  psK h21 [t96, t104] (bVH (cpK Ty h21 22 t96 t104) fun t105 h22 =>
  bV (ld ty40 h22 t90) fun t106 =>
  bVH (F 87 [a0, t84, t106] h22) fun t107 h23 =>
  bV (aBin Ty .add 3 (.int .i64 0) (.int .i64 1)) fun t108 =>
  j2.1 a0 a2 a3 t62 t75 t108 h23))))))))
  (bV (aLen Ty h15 243 t75) fun t109 =>
  bV (aBin Ty .sub 3 t109 (.int .i64 1)) fun t110 =>
  bV (aIndexAddr Ty 243 t75 t110) fun t111 =>
  bV (ld ty246 h15 t111) fun t112 =>
  alK 246 ty246 h15 fun t113 h24 =>
  bH (st ty246 h24 t113 t112) fun h25 =>
  bV (fa 0 t113) fun t114 =>
  bV (ld ty3 h25 t114) fun t115 =>
  bV (aBin Ty .mul 3 t115 (.int .i64 56)) fun t116 =>
  bV (fa 2 t113) fun t117 =>
  bV (ld ty3 h25 t117) fun t118 =>
  bV (aBin Ty .add 3 t116 t118) fun t119 =>
  bV (aNilCheck t62) fun t120 =>
  bV (fa 2 t120) fun t121 =>
  bV (fa 2 t121) fun t122 =>
  bV (ld ty3 h25 t122) fun t123 =>
  bV (aMax2 t123 t119) fun t124 =>
  bV (aNilCheck t62) fun t125 =>
  bV (fa 2 t125) fun t126 =>
  bV (fa 2 t126) fun t127 =>
  bH (st ty3 h25 t127 t124) fun h26 =>
  bVH (F 175 [t62] h26) fun t128 h27 =>
  bV (aBin Ty .sub 3 t119 a2) fun t129 =>
  some (.tuple #[t129, (.int .i64 0)], h27))))))
theorem e96 (F : FK) (a0 : Value) (a1 : Value) (a2 : Value) (a3 : Value) (h : H) : runK Ty F (lvT 96) (jvT 96) NN FU Go.Proofs.Tryz.f96 [a0, a1, a2, a3] h = F96 F a0 a1 a2 a3 h := by kernel_rfl
def F97 (F : FK) (a0 : Value) (h0 : H) : Rz :=
  bV (aBin Ty .eql 139 a0 (.pointer none)) fun t1 =>
  cdK t1 (some ((.int .i64 0), h0))
  (bV (aNilCheck a0) fun t2 =>
  bV (fa 2 t2) fun t3 =>
  bV (fa 2 t3) fun t4 =>
  bV (ld ty3 h0 t4) fun t5 =>
  some (t5, h0))
theorem e97 (F : FK) (a0 : Value) (h : H) : runK Ty F (lvT 97) (jvT 97) NN FU Go.Proofs.Tryz.f97 [a0] h = F97 F a0 h := by kernel_rfl
def F98 (F : FK) (a0 : Value) (a1 : Value) (h0 : H) : Rz :=
  alK 40 ty40 h0 fun t1 h1 =>
  bV (aBin Ty .eql 139 a0 (.pointer none)) fun t2 =>
  guardV t2 false (fun k => k a1 h1) h1 fun t3 h2 =>
  guardV t2 false (fun k => bV (aBin Ty .lss 3 t3 (.int .i64 0)) fun t5 =>
  k t5 h2) h2 fun t4 h3 =>
  pickK t2 (.bool true) t4 fun t6 =>
  guardV t6 false (fun k => k a1 h3) h3 fun t7 h4 =>
  guardV t6 false (fun k => k a0 h4) h4 fun t8 h5 =>
  guardV t6 false (fun k => bV (aNilCheck t8) fun t10 =>
  k t10 h5) h5 fun t9 h6 =>
  guardV t6 false (fun k => bV (fa 11 t9) fun t12 =>
  k t12 h6) h6 fun t11 h7 =>
  guardV t6 false (fun k => bV (ld ty41 h7 t11) fun t14 =>
  k t14 h7) h7 fun t13 h8 =>
  guardV t6 false (fun k => bV (aLen Ty h8 41 t13) fun t16 =>
  k t16 h8) h8 fun t15 h9 =>
  guardV t6 false (fun k => bV (aBin Ty .geq 3 t7 t15) fun t18 =>
  k t18 h9) h9 fun t17 h10 =>
  pickK t6 (.bool true) t17 fun t19 =>
  cdK t19 (bV (aBuild Ty 40 []) fun t20 =>
  bH (st ty40 h10 t1 t20) fun h11 =>
  bV (ld ty40 h11 t1) fun t21 =>
  some (.tuple #[t21, (.bool false)], h11))
  (bV (aNilCheck a0) fun t22 =>
  bV (fa 11 t22) fun t23 =>
  bV (ld ty41 h10 t23) fun t24 =>
  bV (aIndexAddr Ty 41 t24 a1) fun t25 =>
  bV (ld ty40 h10 t25) fun t26 =>
  bH (st ty40 h10 t1 t26) fun h12 =>
  bV (ld ty40 h12 t1) fun t27 =>
  some (.tuple #[t27, (.bool true)], h12))
theorem e98 (F : FK) (a0 : Value) (a1 : Value) (h : H) : runK Ty F (lvT 98) (jvT 98) NN FU Go.Proofs.Tryz.f98 [a0, a1] h = F98 F a0 a1 h := by kernel_rfl
def F99 (F : FK) (a0 : Value) (a1 : Value) (a2 : Value) (a3 : Value) (h0 : H) : Rz :=
  bxK 56 a2 h0 fun t1 h1 =>
  bxK 56 a3 h1 fun t2 h2 =>
  jn ((Value → Value → Value → Value → Value → H → Rz) × Unit) (lpK ((Value → Value → Value → Value → Value → H → Rz) × Unit) (fun _ _ _ _ _ _ => none, ()) (fun j1 => (fun t3 t4 t5 t6 t7 h3 =>
  bV (ld ty56 h3 t5) fun t8 =>
  bV (ld ty56 h3 t6) fun t9 =>
  bV (aBin Ty .eql 56 t8 t9) fun t10 =>
  cdK t10 (some ((.bool true), h3))
  (jn (H → Rz) (fun h4 =>
  some ((.bool false), h4)) fun j3 =>
  lwK h3 (bV (fa 0 t5) fun t11 =>
  psK h3 [t11] (bV (ld ty3 h3 t11) fun t12 =>
  bV (aNilCheck t3) fun t13 =>
  bV (fa 1 t13) fun t14 =>
  psK h3 [t14] (bV (ld ty3 h3 t14) fun t15 =>
  bV (aBin Ty .eql 3 t12 t15) fun t16 =>
  guardV t16 true (fun k => k t7 h3) h3 fun t17 h5 =>
  guardV t16 true (fun k => bV (aBin Ty .gtr 3 t17 (.int .i64 0)) fun t19 =>
  k t19 h5) h5 fun t18 h6 =>
  pickK t16 t18 (.bool false) fun t20 =>
  cdK t20 (bV (ld ty56 h6 t5) fun t21 =>
  bVH (F 176 [t3, t4, t21] h6) fun t22 h7 =>
  bV (aExtract t22 0) fun t23 =>
  bV (aExtract t22 1) fun t24 =>
  bH (st ty56 h7 t5 t23) fun h8 =>
  cdK t24 (bV (aBin Ty .sub 3 t7 (.int .i64 1)) fun t25 =>
  j1.1 t3 t4 t5 t6 t25 h8)
  (j3 h8))
  (j3 h6))))), ())) NN) fun j2 =>
  bV (aNilCheck a0) fun t26 =>
  bV (fa 0 t26) fun t27 =>
  bV (ld ty139 h2 t27) fun t28 =>
  bVH (F 97 [t28] h2) fun t29 h9 =>
  bV (ld ty56 h9 t1) fun t30 =>
  bV (ld ty56 h9 t2) fun t31 =>
  bV (aBin Ty .eql 56 t30 t31) fun t32 =>
  cdK t32 (some ((.bool true), h9))
  (jn (H → Rz) (fun h10 =>
  some ((.bool false), h10)) fun j4 =>
  lwK h9 (bV (fa 0 t1) fun t33 =>
  psK h9 [t33] (bV (ld ty3 h9 t33) fun t34 =>
  bV (aNilCheck a0) fun t35 =>
  bV (fa 1 t35) fun t36 =>
  psK h9 [t36] (bV (ld ty3 h9 t36) fun t37 =>
  bV (aBin Ty .eql 3 t34 t37) fun t38 =>
  guardV t38 true (fun k => k t29 h9) h9 fun t39 h11 =>
  guardV t38 true (fun k => bV (aBin Ty .gtr 3 t39 (.int .i64 0)) fun t41 =>
  k t41 h11) h11 fun t40 h12 =>
  pickK t38 t40 (.bool false) fun t42 =>
  cdK t42 (bV (ld ty56 h12 t1) fun t43 =>
  bVH (F 176 [a0, a1, t43] h12) fun t44 h13 =>
  bV (aExtract t44 0) fun t45 =>
  bV (aExtract t44 1) fun t46 =>
  bH (st ty56 h13 t1 t45) fun h14 =>
  cdK t46 (bV (aBin Ty .sub 3 t29 (.int .i64 1)) fun t47 =>
  j2.1 a0 a1 t1 t2 t47 h14)
  (j4 h14))
  (j4 h12)))))
theorem e99 (F : FK) (a0 : Value) (a1 : Value) (a2 : Value) (a3 : Value) (h : H) : runK Ty F (lvT 99) (jvT 99) NN FU Go.Proofs.Tryz.f99 [a0, a1, a2, a3] h = F99 F a0 a1 a2 a3 h := by kernel_rfl
def F100 (F : FK) (a0 : Value) (h0 : H) : Rz :=
  bxK 159 a0 h0 fun t1 h1 =>
  alK 40 ty40 h1 fun t2 h2 =>
  bV (ld ty159 h2 t1) fun t3 =>
  bVH (F 177 [t3] h2) fun t4 h3 =>
  bV (aUn .not t4) fun t5 =>
  cdK t5 (bV (aBuild Ty 40 []) fun t6 =>
  bH (st ty40 h3 t2 t6) fun h4 =>
  bV (ld ty40 h4 t2) fun t7 =>
  some (.tuple #[t7, (.bool false)], h4))
  (lwK h3 (bV (fa 0 t1) fun t8 =>
  psK h3 [t8] (bV (ld ty56 h3 t8) fun t9 =>
  caD (F 178 [t9] (lw0 h3)) h3 [] fun t10 h5 h6 =>
  bV (fa 4 t1) fun t11 =>
  psK h6 [t11] (ckK [t11] [(h3, h5)] [(h3, h5)] [] (bV (ld ty3 h6 t11) fun t12 =>
  bV (aBin Ty .shr 3 t12 (.int .u64 8)) fun t13 =>
  bV (aConv Ty 5 t13) fun t14 =>
  bV (fa 4 t1) fun t15 =>
  psK h6 [t15] (ckK [t15] [(h3, h5)] [(h3, h5)] [] (bV (ld ty3 h6 t15) fun t16 =>
  bV (aConv Ty 5 t16) fun t17 =>
  bV (fa 5 t1) fun t18 =>
  psK h6 [t18] (ckK [t18] [(h3, h5)] [(h3, h5)] [] (bV (ld ty54 h6 t18) fun t19 =>
  bV (aBin Ty .shr 54 t19 (.int .u64 24)) fun t20 =>
  bV (aConv Ty 5 t20) fun t21 =>
  bV (fa 5 t1) fun t22 =>
  psK h6 [t22] (ckK [t22] [(h3, h5)] [(h3, h5)] [] (bV (ld ty54 h6 t22) fun t23 =>
  bV (aBin Ty .shr 54 t23 (.int .u64 16)) fun t24 =>
  bV (aConv Ty 5 t24) fun t25 =>
  bV (fa 5 t1) fun t26 =>
  psK h6 [t26] (ckK [t26] [(h3, h5)] [(h3, h5)] [] (bV (ld ty54 h6 t26) fun t27 =>
  bV (aBin Ty .shr 54 t27 (.int .u64 8)) fun t28 =>
  bV (aConv Ty 5 t28) fun t29 =>
  bV (fa 5 t1) fun t30 =>
  psK h6 [t30] (ckK [t30] [(h3, h5)] [(h3, h5)] [] (bV (ld ty54 h6 t30) fun t31 =>
  bV (aConv Ty 5 t31) fun t32 =>
  bV (fa 3 t1) fun t33 =>
  psK h6 [t33] (ckK [t33] [(h3, h5)] [(h3, h5)] [] (bV (ld ty9 h6 t33) fun t34 =>
  bV (aLen Ty h6 9 t34) fun t35 =>
  bV (aConv Ty 5 t35) fun t36 =>
  bVH (aBuildSlice Ty h6 22 7 [(0, t14), (1, t17), (2, t21), (3, t25), (4, t29), (5, t32), (6, t36)]) fun t37 h7 =>
  bV (fa 3 t1) fun t38 =>
  psK h7 [t38] (ckK [t38] [(h3, h5), (h6, h7)] [(h3, h5)] [] (bV (ld ty9 h7 t38) fun t39 =>
  bVH (cvK Ty 9 22 t39 h7) fun t40 h8 =>
  bVH (aBuildSlice Ty h8 100 3 [(0, t10), (1, t37), (2, t40)]) fun t41 h9 =>
  caD (F 67 [t41] (lw0 h9)) h9 [] fun t42 h10 h11 =>
  bV (aBuild Ty 40 [(0, (.int .i64 6))]) fun t43 =>
  alK 40 ty40 h11 fun t44 h12 =>
  bH (st ty40 h12 t44 t43) fun h13 =>
  bV (fa 1 t44) fun t45 =>
  bV (aSlice Ty 38 t45 none none none) fun t46 =>
  bVH (cpK Ty h13 22 t46 t42) fun t47 h14 =>
  bV (ld ty40 h14 t44) fun t48 =>
  bH (st ty40 h14 t2 t48) fun h15 =>
  bV (ld ty40 h15 t2) fun t49 =>
  some (.tuple #[t49, (.bool true)], h15))))))))))))))))))))
theorem e100 (F : FK) (a0 : Value) (h : H) : runK Ty F (lvT 100) (jvT 100) NN FU Go.Proofs.Tryz.f100 [a0] h = F100 F a0 h := by kernel_rfl
def F101 (F : FK) (a0 : Value) (a1 : Value) (a2 : Value) (a3 : Value) (h0 : H) : Rz :=
  bVH (F 172 [a0, a1] h0) fun t1 h1 =>
  bV (aExtract t1 0) fun t2 =>
  bV (aExtract t1 1) fun t3 =>
  bV (aUn .not t3) fun t4 =>
  cdK t4 (some (.tuple #[(.slice none 0 0), (.int .i64 2)], h1))
  (bV (aBin Ty .lss 3 a2 (.int .i64 0)) fun t5 =>
  guardV t5 false (fun k => k a3 h1) h1 fun t6 h2 =>
  guardV t5 false (fun k => bV (aBin Ty .lss 3 t6 (.int .i64 0)) fun t8 =>
  k t8 h2) h2 fun t7 h3 =>
  pickK t5 (.bool true) t7 fun t9 =>
  cdK t9 (some (.tuple #[(.slice none 0 0), (.int .i64 1)], h3))
  (bV (aNilCheck t2) fun t10 =>
  bV (fa 2 t10) fun t11 =>
  bV (fa 2 t11) fun t12 =>
  bV (ld ty3 h3 t12) fun t13 =>
  bV (aBin Ty .sub 3 t13 a2) fun t14 =>
  bV (aMax2 t14 (.int .i64 0)) fun t15 =>
  bV (aMin2 a3 t15) fun t16 =>
  bVH (F 173 [a2, t16] h3) fun t17 h4 =>
  bV (aLen Ty h4 243 t17) fun t18 =>
  lpK (Value → Value → Value → Value → Value → Value → H → Rz) (fun _ _ _ _ _ _ _ => none) (fun j1 => fun t19 t20 t21 t22 t23 t24 h5 =>
  bV (aBin Ty .lss 3 t24 t23) fun t25 =>
  cdK t25 (bV (aIndexAddr Ty 243 t22 t24) fun t26 =>
  bV (ld ty246 h5 t26) fun t27 =>
  alK 246 ty246 h5 fun t28 h6 =>
  bH (st ty246 h6 t28 t27) fun h7 =>
  alK 40 ty40 h7 fun t29 h8 =>
  jn (Value → Value → Value → Value → Value → Value → Value → Value → H → Rz) (fun t30 t31 t32 t33 t34 t35 t36 t37 h9 =>
  bV (fa 1 t34) fun t38 =>
  bV (fa 1 t33) fun t39 =>
  bV (ld ty3 h9 t39) fun t40 =>
  bV (fa 2 t33) fun t41 =>
  bV (ld ty3 h9 t41) fun t42 =>
  bV (aSlice Ty 38 t38 (some t40) (some t42) none) fun t43 =>
  bVH (aAppend Ty h9 22 22 t32 t43) fun t44 h10 =>
  bV (aBin Ty .add 3 t37 (.int .i64 1)) fun t45 =>
  j1 t30 t31 t44 t35 t36 t45 h10) fun j2 =>
  bV (fa 0 t28) fun t46 =>
  bV (ld ty3 h8 t46) fun t47 =>
  bVH (F 179 [t20, t47] h8) fun t48 h11 =>
  bV (aNilCheck t48) fun t49 =>
  bV (ld ty3 h11 t49) fun t50 =>
  bV (aBin Ty .neq 3 t50 (.int .i64 (-1))) fun t51 =>
  cdK t51 (bVH (F 163 [t19, t50] h11) fun t52 h12 =>
  bV (aExtract t52 0) fun t53 =>
  bV (aExtract t52 1) fun t54 =>
  bH (st ty40 h12 t29 t53) fun h13 =>
  j2 t19 t20 t21 t28 t29 t22 t23 t24 h13)
  (j2 t19 t20 t21 t28 t29 t22 t23 t24 h11))
  (some (.tuple #[t21, (.int .i64 0)], h5))) NN a0 t2 (.slice none 0 0) t17 t18 (.int .i64 0) h4))
theorem e101 (F : FK) (a0 : Value) (a1 : Value) (a2 : Value) (a3 : Value) (h : H) : runK Ty F (lvT 101) (jvT 101) NN FU Go.Proofs.Tryz.f101 [a0, a1, a2, a3] h = F101 F a0 a1 a2 a3 h := by kernel_rfl
def F109 (F : FK) (a0 : Value) (h0 : H) : Rz :=
  bV (aBin Ty .neq 139 a0 (.pointer none)) fun t1 =>
  cdK t1 (lwK h0 (bV (aNilCheck a0) fun t2 =>
  bV (fa 0 t2) fun t3 =>
  psK h0 [t3] (bV (ld ty24 h0 t3) fun t4 =>
  bV (aNilCheck a0) fun t5 =>
  bV (fa 1 t5) fun t6 =>
  psK h0 [t6] (bV (ld ty3 h0 t6) fun t7 =>
  caD (F 181 [t4, t7] (lw0 h0)) h0 [] fun t8 h1 h2 =>
  some (.tuple #[], h2)))))
  (some (.tuple #[], h0))
theorem e109 (F : FK) (a0 : Value) (h : H) : runK Ty F (lvT 109) (jvT 109) NN FU Go.Proofs.Tryz.f109 [a0] h = F109 F a0 h := by kernel_rfl
def F110 (F : FK) (a0 : Value) (h0 : H) : Rz :=
  bV (aBin Ty .eql 139 a0 (.pointer none)) fun t1 =>
  cdK t1 (some (.tuple #[], h0))
  (bVH (F 109 [a0] h0) fun t2 h1 =>
  bVH (F 141 [a0] h1) fun t3 h2 =>
  some (.tuple #[], h2))
theorem e110 (F : FK) (a0 : Value) (h : H) : runK Ty F (lvT 110) (jvT 110) NN FU Go.Proofs.Tryz.f110 [a0] h = F110 F a0 h := by kernel_rfl
def F111 (F : FK) (a0 : Value) (a1 : Value) (a2 : Value) (h0 : H) : Rz :=
  bVH (F 172 [a0, a1] h0) fun t1 h1 =>
  bV (aExtract t1 0) fun t2 =>
  bV (aExtract t1 1) fun t3 =>
  bV (aUn .not t3) fun t4 =>
  cdK t4 (some ((.int .i64 2), h1))
  (bV (aBin Ty .lss 3 a2 (.int .i64 0)) fun t5 =>
  cdK t5 (some ((.int .i64 1), h1))
  (bV (aBin Ty .gtr 3 a2 (.int .i64 1120)) fun t6 =>
  cdK t6 (some ((.int .i64 13), h1))
  (bV (aNilCheck t2) fun t7 =>
  bV (fa 2 t7) fun t8 =>
  bV (fa 2 t8) fun t9 =>
  bH (st ty3 h1 t9 a2) fun h2 =>
  lpK (Value → Value → Value → Value → H → Rz) (fun _ _ _ _ _ => none) (fun j1 => fun t10 t11 t12 t13 h3 =>
  bV (aBin Ty .lss 3 t13 (.int .i64 20)) fun t14 =>
  cdK t14 (jn (Value → Value → Value → Value → H → Rz) (fun t15 t16 t17 t18 h4 =>
  bV (aBin Ty .add 3 t18 (.int .i64 1)) fun t19 =>
  j1 t15 t16 t17 t19 h4) fun j2 =>
  bVH (F 179 [t12, t13] h3) fun t20 h5 =>
  bV (aBin Ty .mul 3 t13 (.int .i64 56)) fun t21 =>
  bV (aBin Ty .sub 3 t11 t21) fun t22 =>
  bV (aMax2 t22 (.int .i64 0)) fun t23 =>
  bV (aBin Ty .eql 3 t23 (.int .i64 0)) fun t24 =>
  cdK t24 (bV (aNilCheck t20) fun t25 =>
  bH (st ty3 h5 t25 (.int .i64 (-1))) fun h6 =>
  j2 t10 t11 t12 t13 h6)
  (bV (aBin Ty .lss 3 t23 (.int .i64 56)) fun t26 =>
  guardV t26 true (fun k => k t20 h5) h5 fun t27 h7 =>
  guardV t26 true (fun k => bV (aNilCheck t27) fun t29 =>
  k t29 h7) h7 fun t28 h8 =>
  guardV t26 true (fun k => bV (ld ty3 h8 t28) fun t31 =>
  k t31 h8) h8 fun t30 h9 =>
  guardV t26 true (fun k => bV (aBin Ty .neq 3 t30 (.int .i64 (-1))) fun t33 =>
  k t33 h9) h9 fun t32 h10 =>
  pickK t26 t32 (.bool false) fun t34 =>
  cdK t34 (bV (aNilCheck t20) fun t35 =>
  bV (ld ty3 h10 t35) fun t36 =>
  bVH (F 163 [t10, t36] h10) fun t37 h11 =>
  bV (aExtract t37 0) fun t38 =>
  bV (aExtract t37 1) fun t39 =>
  alK 40 ty40 h11 fun t40 h12 =>
  bH (st ty40 h12 t40 t38) fun h13 =>
  bV (fa 1 t40) fun t41 =>
  bV (aSlice Ty 38 t41 (some t23) none none) fun t42 =>
  bH (aClear Ty h13 22 t42) fun h14 =>
  lwK h14 (bV (aNilCheck t20) fun t43 =>
  psK h14 [t43] (bV (ld ty3 h14 t43) fun t44 =>
  psK h14 [t40] (bV (ld ty40 h14 t40) fun t45 =>
  caD (F 87 [t10, t44, t45] (lw0 h14)) h14 [] fun t46 h15 h16 =>
  j2 t10 t11 t12 t13 h16))))
  (j2 t10 t11 t12 t13 h10)))
  (jn (Value → H → Rz) (fun t47 h17 =>
  bVH (F 175 [t47] h17) fun t48 h18 =>
  some ((.int .i64 0), h18)) fun j3 =>
  bV (aNilCheck t12) fun t49 =>
  bV (fa 11 t49) fun t50 =>
  bV (ld ty87 h3 t50) fun t51 =>
  bVH (F 182 [t51, (.func (.func 183) #[] #[])] h3) fun t52 h19 =>
  bV (aUn .not t52) fun t53 =>
  cdK t53 (bV (aNilCheck t12) fun t54 =>
  bV (fa 2 t54) fun t55 =>
  bV (fa 7 t55) fun t56 =>
  bH (st ty3 h19 t56 (.int .i64 (-1))) fun h20 =>
  j3 t12 h20)
  (j3 t12 h19))) NN a0 a2 t2 (.int .i64 0) h2)))
theorem e111 (F : FK) (a0 : Value) (a1 : Value) (a2 : Value) (h : H) : runK Ty F (lvT 111) (jvT 111) NN FU Go.Proofs.Tryz.f111 [a0, a1, a2] h = F111 F a0 a1 a2 h := by kernel_rfl
def F112 (F : FK) (a0 : Value) (h0 : H) : Rz :=
  bV (aBin Ty .eql 100 a0 (.slice none 0 0)) fun t1 =>
  cdK t1 (some ((.slice none 0 0), h0))
  (bVH (aBuildSlice Ty h0 100 0 []) fun t2 h1 =>
  bVH (aAppend Ty h1 100 100 t2 a0) fun t3 h2 =>
  some (t3, h2))
theorem e112 (F : FK) (a0 : Value) (h : H) : runK Ty F (lvT 112) (jvT 112) NN FU Go.Proofs.Tryz.f112 [a0] h = F112 F a0 h := by kernel_rfl
def F113 (F : FK) (a0 : Value) (a1 : Value) (a2 : Value) (h0 : H) : Rz :=
  bxK 28 a2 h0 fun t1 h1 =>
  bV (ld ty28 h1 t1) fun t2 =>
  bVH (F 51 [t2] h1) fun t3 h2 =>
  bV (aBin Ty .sub 3 t3 (.int .i64 1)) fun t4 =>
  bVH (F 184 [a0, a1, t4] h2) fun t5 h3 =>
  bV (aExtract t5 0) fun t6 =>
  bV (aExtract t5 1) fun t7 =>
  bV (aUn .not t7) fun t8 =>
  cdK t8 (some ((.bool false), h3))
  (bV (ld ty28 h3 t1) fun t9 =>
  bVH (F 136 [a0, a1, t9, (.int .u32 1)] h3) fun t10 h4 =>
  bV (fa 2 t1) fun t11 =>
  bV (ld ty3 h4 t11) fun t12 =>
  lpK (Value → Value → Value → Value → Value → H → Rz) (fun _ _ _ _ _ _ => none) (fun j1 => fun t13 t14 t15 t16 t17 h5 =>
  bV (aBin Ty .lss 3 t17 t16) fun t18 =>
  cdK t18 (bV (aBuild Ty 40 [(0, (.int .i64 0))]) fun t19 =>
  alK 40 ty40 h5 fun t20 h6 =>
  bH (st ty40 h6 t20 t19) fun h7 =>
  jn (Value → Value → Value → Value → Value → Value → Value → H → Rz) (fun t21 t22 t23 t24 t25 t26 t27 h8 =>
  bV (ld ty40 h8 t25) fun t28 =>
  bVH (F 185 [t23, t24, t28] h8) fun t29 h9 =>
  bV (aBin Ty .add 3 t27 (.int .i64 1)) fun t30 =>
  j1 t21 t22 t23 t26 t30 h9) fun j2 =>
  bV (aBin Ty .eql 3 t17 (.int .i64 0)) fun t31 =>
  cdK t31 (bV (fa 0 t20) fun t32 =>
  bH (st ty3 h7 t32 (.int .i64 7)) fun h10 =>
  bV (fa 1 t20) fun t33 =>
  bV (aIndexAddr Ty 38 t33 (.int .i64 3)) fun t34 =>
  bH (st ty5 h10 t34 (.int .u8 1)) fun h11 =>
  j2 t13 t14 t15 t17 t20 t16 t17 h11)
  (j2 t13 t14 t15 t17 t20 t16 t17 h7))
  (bVH (F 181 [t13, t14] h5) fun t35 h12 =>
  bVH (F 186 [t15] h12) fun t36 h13 =>
  some ((.bool true), h13))) NN a0 a1 t10 t12 (.int .i64 0) h4)
theorem e113 (F : FK) (a0 : Value) (a1 : Value) (a2 : Value) (h : H) : runK Ty F (lvT 113) (jvT 113) NN FU Go.Proofs.Tryz.f113 [a0, a1, a2] h = F113 F a0 a1 a2 h := by kernel_rfl
def F135 (F : FK) (a0 : Value) (a1 : Value) (h0 : H) : Rz :=
  jn (Value → Value → H → Rz) (fun t1 t2 h1 =>
  jn (Value → H → Rz) (fun t3 h2 =>
  some (t3, h2)) fun j2 =>
  bV (aCap Ty 22 t1) fun t4 =>
  bV (aLen Ty h1 22 t1) fun t5 =>
  bV (aBin Ty .sub 3 t4 t5) fun t6 =>
  bV (aBin Ty .sub 3 t2 t6) fun t7 =>
  bV (aBin Ty .gtr 3 t7 (.int .i64 0)) fun t8 =>
  cdK t8 (bV (aCap Ty 22 t1) fun t9 =>
  bV (aSlice Ty 22 t1 none (some t9) none) fun t10 =>
  bVH (aAppend Ty h1 22 3 t10 t7) fun t11 h3 =>
  bV (aLen Ty h3 22 t1) fun t12 =>
  bV (aSlice Ty 22 t11 none (some t12) none) fun t13 =>
  j2 t13 h3)
  (j2 t1 h1)) fun j1 =>
  bV (aBin Ty .lss 3 a1 (.int .i64 0)) fun t14 =>
  cdK t14 (none)
  (j1 a0 a1 h0)
theorem e135 (F : FK) (a0 : Value) (a1 : Value) (h : H) : runK Ty F (lvT 135) (jvT 135) NN FU Go.Proofs.Tryz.f135 [a0, a1] h = F135 F a0 a1 h := by kernel_rfl
def F136 (F : FK) (a0 : Value) (a1 : Value) (a2 : Value) (a3 : Value) (h0 : H) : Rz :=
  bxK 28 a2 h0 fun t1 h1 =>
  bV (fa 0 t1) fun t2 =>
  bV (ld ty26 h1 t2) fun t3 =>
  bVH (F 200 [t3] h1) fun t4 h2 =>
  bV (aExtract t4 0) fun t5 =>
  bV (aExtract t4 1) fun t6 =>
  bV (ld ty28 h2 t1) fun t7 =>
  mmK 207 h2 fun t8 h3 =>
  bV (aBuild Ty 209 [(0, a0), (1, a1), (2, t7), (3, t5), (4, a3), (8, t8)]) fun t9 =>
  bxK 209 t9 h3 fun t10 h4 =>
  some (t10, h4)
theorem e136 (F : FK) (a0 : Value) (a1 : Value) (a2 : Value) (a3 : Value) (h : H) : runK Ty F (lvT 136) (jvT 136) NN FU Go.Proofs.Tryz.f136 [a0, a1, a2, a3] h = F136 F a0 a1 a2 a3 h := by kernel_rfl
def F137 (F : FK) (a0 : Value) (h0 : H) : Rz :=
  bV (aBin Ty .eql 24 a0 (.pointer none)) fun t1 =>
  cdK t1 (some ((.int .i64 0), h0))
  (bV (aNilCheck a0) fun t2 =>
  bV (fa 0 t2) fun t3 =>
  bV (ld ty126 h0 t3) fun t4 =>
  bV (aLen Ty h0 126 t4) fun t5 =>
  some (t5, h0))
theorem e137 (F : FK) (a0 : Value) (h : H) : runK Ty F (lvT 137) (jvT 137) NN FU Go.Proofs.Tryz.f137 [a0] h = F137 F a0 h := by kernel_rfl
def F138 (F : FK) (a0 : Value) (h0 : H) : Rz :=
  lpK (Value → Value → Value → H → Rz) (fun _ _ _ _ => none) (fun j1 => fun t1 t2 t3 h1 =>
  bV (aBin Ty .lss 3 t3 (.int .i64 2)) fun t4 =>
  cdK t4 (jn (Value → Value → Value → H → Rz) (fun t5 t6 t7 h2 =>
  bV (aBin Ty .add 3 t7 (.int .i64 1)) fun t8 =>
  j1 t5 t6 t8 h2) fun j2 =>
  lwK h1 (bV (aNilCheck t1) fun t9 =>
  bV (fa 0 t9) fun t10 =>
  psK h1 [t10] (bV (ld ty24 h1 t10) fun t11 =>
  bV (aNilCheck t1) fun t12 =>
  bV (fa 1 t12) fun t13 =>
  psK h1 [t13] (bV (ld ty3 h1 t13) fun t14 =>
  caD (F 184 [t11, t14, t3] (lw0 h1)) h1 [] fun t15 h3 h4 =>
  bV (aExtract t15 0) fun t16 =>
  bV (aExtract t15 1) fun t17 =>
  bV (aNilCheck t1) fun t18 =>
  bV (fa 7 t18) fun t19 =>
  bV (ld ty5 h4 t19) fun t20 =>
  bVH (F 201 [t20, t16] h4) fun t21 h5 =>
  bV (aExtract t21 0) fun t22 =>
  bV (aExtract t21 1) fun t23 =>
  guardV t23 true (fun k => k t22 h5) h5 fun t24 h6 =>
  guardV t23 true (fun k => bVH (F 202 [t24] h6) fun t26 h8 =>
  k t26 h8) h6 fun t25 h7 =>
  guardV t23 true (fun k => k t3 h7) h7 fun t27 h9 =>
  guardV t23 true (fun k => bV (aBin Ty .eql 3 t25 t27) fun t29 =>
  k t29 h9) h9 fun t28 h10 =>
  pickK t23 t28 (.bool false) fun t30 =>
  guardV t30 true (fun k => k t2 h10) h10 fun t31 h11 =>
  guardV t30 true (fun k => bV (aUn .not t31) fun t33 =>
  k t33 h11) h11 fun t32 h12 =>
  guardV t30 true (fun k => k t32 h12) h12 fun t34 h13 =>
  guardV t34 false (fun k => k t22 h13) h13 fun t35 h14 =>
  guardV t34 false (fun k => k t1 h14) h14 fun t36 h15 =>
  guardV t34 false (fun k => bV (aNilCheck t36) fun t38 =>
  k t38 h15) h15 fun t37 h16 =>
  guardV t34 false (fun k => bV (fa 8 t37) fun t40 =>
  k t40 h16) h16 fun t39 h17 =>
  guardV t34 false (fun k => bV (ld ty54 h17 t39) fun t42 =>
  k t42 h17) h17 fun t41 h18 =>
  guardV t34 false (fun k => bV (aBin Ty .gtr 54 t35 t41) fun t44 =>
  k t44 h18) h18 fun t43 h19 =>
  guardV t30 true (fun k => pickK t34 (.bool true) t43 fun t46 =>
  k t46 h19) h19 fun t45 h20 =>
  pickK t30 t45 (.bool false) fun t47 =>
  cdK t47 (bV (aNilCheck t1) fun t48 =>
  bV (fa 8 t48) fun t49 =>
  bH (st ty54 h20 t49 t22) fun h21 =>
  j2 t1 (.bool true) t3 h21)
  (j2 t1 t2 t3 h20)))))
  (some (t2, h1))) NN a0 (.bool false) (.int .i64 0) h0
theorem e138 (F : FK) (a0 : Value) (h : H) : runK Ty F (lvT 138) (jvT 138) NN FU Go.Proofs.Tryz.f138 [a0] h = F138 F a0 h := by kernel_rfl
def F139 (F : FK) (a0 : Value) (h0 : H) : Rz :=
  jn ((Value → Value → Value → H → Rz) × Unit) (lpK ((Value → Value → Value → H → Rz) × Unit) (fun _ _ _ _ => none, ()) (fun j1 => (fun t1 t2 t3 h1 =>
  lwK h1 (bV (aNilCheck t1) fun t4 =>
  bV (fa 7 t4) fun t5 =>
  psK h1 [t5] (bV (ld ty5 h1 t5) fun t6 =>
  bV (aNilCheck t1) fun t7 =>
  bV (fa 8 t7) fun t8 =>
  psK h1 [t8] (bV (ld ty54 h1 t8) fun t9 =>
  bV (aNilCheck t1) fun t10 =>
  bV (fa 9 t10) fun t11 =>
  psK h1 [t11] (bV (ld ty54 h1 t11) fun t12 =>
  caD (F 204 [t6, t9, t12, t2] (lw0 h1)) h1 [] fun t13 h2 h3 =>
  bV (aExtract t13 0) fun t14 =>
  bV (aExtract t13 1) fun t15 =>
  bV (aExtract t13 2) fun t16 =>
  cdK t16 (bV (aLen Ty h3 218 t14) fun t17 =>
  lpK (Value → Value → Value → Value → Value → Value → Value → H → Rz) (fun _ _ _ _ _ _ _ _ => none) (fun j3 => fun t18 t19 t20 t21 t22 t23 t24 h4 =>
  bV (aBin Ty .lss 3 t24 t23) fun t25 =>
  cdK t25 (bV (aIndexAddr Ty 218 t22 t24) fun t26 =>
  bV (ld ty278 h4 t26) fun t27 =>
  alK 278 ty278 h4 fun t28 h5 =>
  bH (st ty278 h5 t28 t27) fun h6 =>
  bV (fa 0 t28) fun t29 =>
  bV (ld ty3 h6 t29) fun t30 =>
  bV (fa 1 t28) fun t31 =>
  bV (ld ty40 h6 t31) fun t32 =>
  bH (aMapUpdate Ty h6 205 t20 t30 t32) fun h7 =>
  bV (aBin Ty .add 3 t24 (.int .i64 1)) fun t33 =>
  j3 t18 t19 t20 t21 t22 t23 t33 h7)
  (bV (aSlice Ty 100 t19 (some t21) none none) fun t34 =>
  bV (aNilCheck t18) fun t35 =>
  bV (fa 9 t35) fun t36 =>
  bV (ld ty54 h4 t36) fun t37 =>
  bV (aBin Ty .add 54 t37 (.int .u32 1)) fun t38 =>
  bV (aNilCheck t18) fun t39 =>
  bV (fa 9 t39) fun t40 =>
  bH (st ty54 h4 t40 t38) fun h8 =>
  j1.1 t18 t34 t20 h8)) NN t1 t2 t3 t15 t14 t17 (.int .i64 0) h3)
  (some (t3, h3)))))), ())) NN) fun j2 =>
  jn (Value → Value → H → Rz) (fun t41 t42 h9 =>
  mmK 205 h9 fun t43 h10 =>
  lwK h10 (bV (aNilCheck t41) fun t44 =>
  bV (fa 7 t44) fun t45 =>
  psK h10 [t45] (bV (ld ty5 h10 t45) fun t46 =>
  bV (aNilCheck t41) fun t47 =>
  bV (fa 8 t47) fun t48 =>
  psK h10 [t48] (bV (ld ty54 h10 t48) fun t49 =>
  bV (aNilCheck t41) fun t50 =>
  bV (fa 9 t50) fun t51 =>
  psK h10 [t51] (bV (ld ty54 h10 t51) fun t52 =>
  caD (F 204 [t46, t49, t52, t42] (lw0 h10)) h10 [] fun t53 h11 h12 =>
  bV (aExtract t53 0) fun t54 =>
  bV (aExtract t53 1) fun t55 =>
  bV (aExtract t53 2) fun t56 =>
  cdK t56 (bV (aLen Ty h12 218 t54) fun t57 =>
  lpK (Value → Value → Value → Value → Value → Value → Value → H → Rz) (fun _ _ _ _ _ _ _ _ => none) (fun j5 => fun t58 t59 t60 t61 t62 t63 t64 h13 =>
  bV (aBin Ty .lss 3 t64 t63) fun t65 =>
  cdK t65 (bV (aIndexAddr Ty 218 t62 t64) fun t66 =>
  bV (ld ty278 h13 t66) fun t67 =>
  alK 278 ty278 h13 fun t68 h14 =>
  bH (st ty278 h14 t68 t67) fun h15 =>
  bV (fa 0 t68) fun t69 =>
  bV (ld ty3 h15 t69) fun t70 =>
  bV (fa 1 t68) fun t71 =>
  bV (ld ty40 h15 t71) fun t72 =>
  bH (aMapUpdate Ty h15 205 t60 t70 t72) fun h16 =>
  bV (aBin Ty .add 3 t64 (.int .i64 1)) fun t73 =>
  j5 t58 t59 t60 t61 t62 t63 t73 h16)
  (bV (aSlice Ty 100 t59 (some t61) none none) fun t74 =>
  bV (aNilCheck t58) fun t75 =>
  bV (fa 9 t75) fun t76 =>
  bV (ld ty54 h13 t76) fun t77 =>
  bV (aBin Ty .add 54 t77 (.int .u32 1)) fun t78 =>
  bV (aNilCheck t58) fun t79 =>
  bV (fa 9 t79) fun t80 =>
  bH (st ty54 h13 t80 t78) fun h17 =>
  j2.1 t58 t74 t60 h17)) NN t41 t42 t43 t55 t54 t57 (.int .i64 0) h12)
  (some (t43, h12))))))) fun j4 =>
  bV (aNilCheck a0) fun t81 =>
  bV (fa 2 t81) fun t82 =>
  bV (fa 3 t82) fun t83 =>
  bV (ld ty3 h0 t83) fun t84 =>
  lpK (Value → Value → Value → Value → H → Rz) (fun _ _ _ _ _ => none) (fun j6 => fun t85 t86 t87 t88 h18 =>
  bV (aBin Ty .lss 3 t88 t87) fun t89 =>
  cdK t89 (lwK h18 (bV (aNilCheck t85) fun t90 =>
  bV (fa 0 t90) fun t91 =>
  psK h18 [t91] (bV (ld ty24 h18 t91) fun t92 =>
  bV (aNilCheck t85) fun t93 =>
  bV (fa 1 t93) fun t94 =>
  psK h18 [t94] (bV (ld ty3 h18 t94) fun t95 =>
  bV (aNilCheck t85) fun t96 =>
  bV (fa 2 t96) fun t97 =>
  psK h18 [t97] (bV (ld ty28 h18 t97) fun t98 =>
  caD (F 203 [t98, t88] (lw0 h18)) h18 [t91, t94] fun t99 h19 h20 =>
  caD (F 184 [t92, t95, t99] (lw0 h20)) h20 [] fun t100 h21 h22 =>
  bV (aExtract t100 0) fun t101 =>
  bV (aExtract t100 1) fun t102 =>
  bV (aUn .not t102) fun t103 =>
  cdK t103 (j4 t85 t86 h22)
  (bVH (aBuildSlice Ty h22 100 1 [(0, t101)]) fun t104 h23 =>
  bVH (aAppend Ty h23 100 100 t86 t104) fun t105 h24 =>
  bV (aBin Ty .add 3 t88 (.int .i64 1)) fun t106 =>
  j6 t85 t105 t87 t106 h24))))))
  (j4 t85 t86 h18)) NN a0 (.slice none 0 0) t84 (.int .i64 0) h0
theorem e139 (F : FK) (a0 : Value) (h : H) : runK Ty F (lvT 139) (jvT 139) NN FU Go.Proofs.Tryz.f139 [a0] h = F139 F a0 h := by kernel_rfl
def F140 (F : FK) (a0 : Value) (a1 : Value) (h0 : H) : Rz :=
  alK 40 ty40 h0 fun t1 h1 =>
  lwK h1 (bV (aNilCheck a0) fun t2 =>
  bV (fa 0 t2) fun t3 =>
  psK h1 [t3] (bV (ld ty24 h1 t3) fun t4 =>
  bV (aNilCheck a0) fun t5 =>
  bV (fa 1 t5) fun t6 =>
  psK h1 [t6] (bV (ld ty3 h1 t6) fun t7 =>
  bV (aNilCheck a0) fun t8 =>
  bV (fa 2 t8) fun t9 =>
  psK h1 [t9] (bV (ld ty28 h1 t9) fun t10 =>
  caD (F 20 [t10, a1] (lw0 h1)) h1 [t3, t6] fun t11 h2 h3 =>
  caD (F 184 [t4, t7, t11] (lw0 h3)) h3 [] fun t12 h4 h5 =>
  bV (aExtract t12 0) fun t13 =>
  bV (aExtract t12 1) fun t14 =>
  bV (aNilCheck a0) fun t15 =>
  bV (fa 7 t15) fun t16 =>
  bV (ld ty5 h5 t16) fun t17 =>
  bVH (F 205 [t17, a1, t13] h5) fun t18 h6 =>
  bV (aExtract t18 0) fun t19 =>
  bV (aExtract t18 1) fun t20 =>
  bH (st ty40 h6 t1 t19) fun h7 =>
  bV (ld ty40 h7 t1) fun t21 =>
  some (.tuple #[t21, t20], h7)))))
theorem e140 (F : FK) (a0 : Value) (a1 : Value) (h : H) : runK Ty F (lvT 140) (jvT 140) NN FU Go.Proofs.Tryz.f140 [a0, a1] h = F140 F a0 a1 h := by kernel_rfl
def F141 (F : FK) (a0 : Value) (h0 : H) : Rz :=
  bV (aNilCheck a0) fun t1 =>
  bV (fa 12 t1) fun t2 =>
  bV (ld ty207 h0 t2) fun t3 =>
  bVH (F 207 [t3] h0) fun t4 h1 =>
  bVH (F 206 [t4] h1) fun t5 h2 =>
  bV (aLen Ty h2 87 t5) fun t6 =>
  lpK (Value → Value → Value → Value → H → Rz) (fun _ _ _ _ _ => none) (fun j1 => fun t7 t8 t9 t10 h3 =>
  bV (aBin Ty .lss 3 t10 t9) fun t11 =>
  cdK t11 (bV (aIndexAddr Ty 87 t8 t10) fun t12 =>
  bV (ld ty3 h3 t12) fun t13 =>
  bV (aNilCheck t7) fun t14 =>
  bV (fa 11 t14) fun t15 =>
  bV (ld ty41 h3 t15) fun t16 =>
  bV (aIndexAddr Ty 41 t16 t13) fun t17 =>
  bV (ld ty40 h3 t17) fun t18 =>
  bVH (F 185 [t7, t13, t18] h3) fun t19 h4 =>
  bV (aBin Ty .add 3 t10 (.int .i64 1)) fun t20 =>
  j1 t7 t8 t9 t20 h4)
  (lwK h3 (bV (aNilCheck t7) fun t21 =>
  bV (fa 0 t21) fun t22 =>
  psK h3 [t22] (bV (ld ty24 h3 t22) fun t23 =>
  bV (aNilCheck t7) fun t24 =>
  bV (fa 1 t24) fun t25 =>
  psK h3 [t25] (bV (ld ty3 h3 t25) fun t26 =>
  caD (F 181 [t23, t26] (lw0 h3)) h3 [] fun t27 h5 h6 =>
  bV (aNilCheck t7) fun t28 =>
  bV (fa 8 t28) fun t29 =>
  bV (ld ty54 h6 t29) fun t30 =>
  bV (aBin Ty .add 54 t30 (.int .u32 1)) fun t31 =>
  bV (aNilCheck t7) fun t32 =>
  bV (fa 8 t32) fun t33 =>
  bH (st ty54 h6 t33 t31) fun h7 =>
  bVH (F 186 [t7] h7) fun t34 h8 =>
  bV (aNilCheck t7) fun t35 =>
  bV (fa 9 t35) fun t36 =>
  bH (st ty54 h8 t36 (.int .u32 0)) fun h9 =>
  bV (aNilCheck t7) fun t37 =>
  bV (fa 10 t37) fun t38 =>
  bH (st ty3 h9 t38 (.int .i64 0)) fun h10 =>
  bV (aNilCheck t7) fun t39 =>
  bV (fa 12 t39) fun t40 =>
  bV (ld ty207 h10 t40) fun t41 =>
  bH (aClear Ty h10 207 t41) fun h11 =>
  some (.tuple #[], h11)))))) NN a0 t5 t6 (.int .i64 0) h2
theorem e141 (F : FK) (a0 : Value) (h : H) : runK Ty F (lvT 141) (jvT 141) NN FU Go.Proofs.Tryz.f141 [a0] h = F141 F a0 h := by kernel_rfl
def F142 (F : FK) (a0 : Value) (h0 : H) : Rz :=
  bV (aNilCheck a0) fun t1 =>
  bV (fa 1 t1) fun t2 =>
  bV (ld ty41 h0 t2) fun t3 =>
  bV (aIndexAddr Ty 41 t3 (.int .i64 0)) fun t4 =>
  bV (ld ty40 h0 t4) fun t5 =>
  alK 40 ty40 h0 fun t6 h1 =>
  bH (st ty40 h1 t6 t5) fun h2 =>
  bV (fa 1 t6) fun t7 =>
  bV (aSlice Ty 38 t7 none (some (.int .i64 4)) none) fun t8 =>
  bV (aLen Ty h2 22 t8) fun t9 =>
  lpK (Value → Value → Value → Value → Value → H → Rz) (fun _ _ _ _ _ _ => none) (fun j1 => fun t10 t11 t12 t13 t14 h3 =>
  bV (aBin Ty .lss 3 t14 t13) fun t15 =>
  cdK t15 (bV (aIndexAddr Ty 22 t12 t14) fun t16 =>
  bV (ld ty5 h3 t16) fun t17 =>
  bV (aNilCheck t10) fun t18 =>
  bV (fa 2 t18) fun t19 =>
  bV (ld ty54 h3 t19) fun t20 =>
  bV (aBin Ty .shl 54 t20 (.int .u64 8)) fun t21 =>
  bV (aConv Ty 54 t17) fun t22 =>
  bV (aBin Ty .or 54 t21 t22) fun t23 =>
  bV (aNilCheck t10) fun t24 =>
  bV (fa 2 t24) fun t25 =>
  bH (st ty54 h3 t25 t23) fun h4 =>
  bV (aBin Ty .add 3 t14 (.int .i64 1)) fun t26 =>
  j1 t10 t11 t12 t13 t26 h4)
  (bV (aBuild Ty 40 [(0, (.int .i64 7))]) fun t27 =>
  alK 40 ty40 h3 fun t28 h5 =>
  bH (st ty40 h5 t28 t27) fun h6 =>
  lwK h6 (bV (fa 1 t28) fun t29 =>
  bV (aSlice Ty 38 t29 none (some (.int .i64 4)) none) fun t30 =>
  bV (fa 1 t11) fun t31 =>
  bV (aSlice Ty 38 t31 none (some (.int .i64 4)) none) fun t32 =>
  psK h6 [t30, t32] (bVH (cpK Ty h6 22 t30 t32) fun t33 h7 =>
  bV (ld ty40 h7 t11) fun t34 =>
  bV (ld ty40 h7 t28) fun t35 =>
  bV (aBin Ty .eql 40 t34 t35) fun t36 =>
  guardV t36 true (fun k => k t10 h7) h7 fun t37 h8 =>
  guardV t36 true (fun k => bV (aNilCheck t37) fun t39 =>
  k t39 h8) h8 fun t38 h9 =>
  guardV t36 true (fun k => bV (fa 2 t38) fun t41 =>
  k t41 h9) h9 fun t40 h10 =>
  guardV t36 true (fun k => bV (ld ty54 h10 t40) fun t43 =>
  k t43 h10) h10 fun t42 h11 =>
  guardV t36 true (fun k => bV (aBin Ty .geq 54 t42 (.int .u32 1)) fun t45 =>
  k t45 h11) h11 fun t44 h12 =>
  pickK t36 t44 (.bool false) fun t46 =>
  some (t46, h12))))) NN a0 t6 t8 t9 (.int .i64 0) h2
theorem e142 (F : FK) (a0 : Value) (h : H) : runK Ty F (lvT 142) (jvT 142) NN FU Go.Proofs.Tryz.f142 [a0] h = F142 F a0 h := by kernel_rfl
def F143 (F : FK) (a0 : Value) (h0 : H) : Rz :=
  bV (aNilCheck a0) fun t1 =>
  bV (fa 1 t1) fun t2 =>
  bV (ld ty41 h0 t2) fun t3 =>
  bV (aSlice Ty 41 t3 (some (.int .i64 1)) none none) fun t4 =>
  bV (aLen Ty h0 41 t4) fun t5 =>
  lpK (Value → Value → Value → Value → H → Rz) (fun _ _ _ _ _ => none) (fun j1 => fun t6 t7 t8 t9 h1 =>
  bV (aBin Ty .lss 3 t9 t8) fun t10 =>
  cdK t10 (jn (Value → Value → Value → Value → H → Rz) (fun t11 t12 t13 t14 h2 =>
  bV (aBin Ty .add 3 t14 (.int .i64 1)) fun t15 =>
  j1 t11 t12 t13 t15 h2) fun j2 =>
  bV (aIndexAddr Ty 41 t7 t9) fun t16 =>
  bV (ld ty40 h1 t16) fun t17 =>
  alK 40 ty40 h1 fun t18 h3 =>
  bH (st ty40 h3 t18 t17) fun h4 =>
  bV (fa 0 t18) fun t19 =>
  bV (ld ty3 h4 t19) fun t20 =>
  bV (aBin Ty .eql 3 t20 (.int .i64 7)) fun t21 =>
  cdK t21 (some ((.bool false), h4))
  (jn (Value → Value → Value → Value → Value → Value → Value → Value → H → Rz) (fun t22 t23 t24 t25 t26 t27 t28 t29 h5 =>
  cdK t29 (bV (ld ty40 h5 t24) fun t30 =>
  bVH (F 72 [t30] h5) fun t31 h6 =>
  bV (aExtract t31 0) fun t32 =>
  bV (aExtract t31 1) fun t33 =>
  alK 75 ty75 h6 fun t34 h7 =>
  bH (st ty75 h7 t34 t32) fun h8 =>
  lwK h8 (bV (aUn .not t33) fun t35 =>
  guardV t35 false (fun k => bV (fa 0 t34) fun t37 =>
  k t37 h8) h8 fun t36 h9 =>
  guardV t35 false (fun k => psK h9 [t36] (bV (ld ty54 h9 t36) fun t39 =>
  k t39 h9)) h9 fun t38 h10 =>
  guardV t35 false (fun k => k t22 h10) h10 fun t40 h11 =>
  guardV t35 false (fun k => bV (aNilCheck t40) fun t42 =>
  k t42 h11) h11 fun t41 h12 =>
  guardV t35 false (fun k => bV (fa 2 t41) fun t44 =>
  k t44 h12) h12 fun t43 h13 =>
  guardV t35 false (fun k => psK h13 [t43] (bV (ld ty54 h13 t43) fun t46 =>
  k t46 h13)) h13 fun t45 h14 =>
  guardV t35 false (fun k => bV (aBin Ty .geq 54 t38 t45) fun t48 =>
  k t48 h14) h14 fun t47 h15 =>
  pickK t35 (.bool true) t47 fun t49 =>
  cdK t49 (some ((.bool false), h15))
  (lwK h15 (bV (aNilCheck t22) fun t50 =>
  bV (fa 3 t50) fun t51 =>
  psK h15 [t51] (bV (ld ty211 h15 t51) fun t52 =>
  bV (aBin Ty .add 3 t23 (.int .i64 1)) fun t53 =>
  bV (fa 0 t24) fun t54 =>
  psK h15 [t54] (bV (ld ty3 h15 t54) fun t55 =>
  psK h15 [t34] (bV (ld ty75 h15 t34) fun t56 =>
  bV (aBuild Ty 285 [(0, t55), (1, t56)]) fun t57 =>
  psK h15 [t52] (bH (aMapUpdate Ty h15 211 t52 t53 t57) fun h16 =>
  j2 t22 t25 t26 t27 h16))))))))
  (bV (aBin Ty .eql 3 t28 (.int .i64 6)) fun t58 =>
  cdK t58 (bV (ld ty40 h5 t24) fun t59 =>
  bVH (F 208 [t59] h5) fun t60 h17 =>
  bV (aExtract t60 0) fun t61 =>
  bV (aExtract t60 1) fun t62 =>
  alK 159 ty159 h17 fun t63 h18 =>
  bH (st ty159 h18 t63 t61) fun h19 =>
  bV (aUn .not t62) fun t64 =>
  cdK t64 (some ((.bool false), h19))
  (lwK h19 (bV (aNilCheck t22) fun t65 =>
  bV (fa 4 t65) fun t66 =>
  psK h19 [t66] (bV (ld ty168 h19 t66) fun t67 =>
  psK h19 [t63] (bV (ld ty159 h19 t63) fun t68 =>
  bVH (aBuildSlice Ty h19 168 1 [(0, t68)]) fun t69 h20 =>
  psK h20 [t67, t69] (bVH (aAppend Ty h20 168 168 t67 t69) fun t70 h21 =>
  bV (aNilCheck t22) fun t71 =>
  bV (fa 4 t71) fun t72 =>
  psK h21 [t72] (bH (st ty168 h21 t72 t70) fun h22 =>
  j2 t22 t25 t26 t27 h22)))))))
  (j2 t22 t25 t26 t27 h5))) fun j3 =>
  bV (aBin Ty .eql 3 t20 (.int .i64 1)) fun t73 =>
  cdK t73 (j3 t6 t9 t18 t7 t8 t9 t20 t73 h4)
  (bV (aBin Ty .eql 3 t20 (.int .i64 2)) fun t74 =>
  cdK t74 (j3 t6 t9 t18 t7 t8 t9 t20 t74 h4)
  (bV (aBin Ty .eql 3 t20 (.int .i64 3)) fun t75 =>
  j3 t6 t9 t18 t7 t8 t9 t20 t75 h4))))
  (some ((.bool true), h1))) NN a0 t4 t5 (.int .i64 0) h0
theorem e143 (F : FK) (a0 : Value) (h : H) : runK Ty F (lvT 143) (jvT 143) NN FU Go.Proofs.Tryz.f143 [a0] h = F143 F a0 h := by kernel_rfl
def F144 (F : FK) (a0 : Value) (h0 : H) : Rz :=
  mmK 286 h0 fun t1 h1 =>
  mmK 287 h1 fun t2 h2 =>
  bV (aNilCheck a0) fun t3 =>
  bV (fa 4 t3) fun t4 =>
  bV (ld ty168 h2 t4) fun t5 =>
  bV (aLen Ty h2 168 t5) fun t6 =>
  lpK (Value → Value → Value → Value → Value → Value → H → Rz) (fun _ _ _ _ _ _ _ => none) (fun j1 => fun t7 t8 t9 t10 t11 t12 h3 =>
  bV (aBin Ty .lss 3 t12 t11) fun t13 =>
  cdK t13 (bV (aIndexAddr Ty 168 t10 t12) fun t14 =>
  bV (ld ty159 h3 t14) fun t15 =>
  alK 159 ty159 h3 fun t16 h4 =>
  bH (st ty159 h4 t16 t15) fun h5 =>
  bV (fa 0 t16) fun t17 =>
  bV (ld ty56 h5 t17) fun t18 =>
  bV (fa 3 t16) fun t19 =>
  bV (ld ty9 h5 t19) fun t20 =>
  bV (aBuild Ty 289 [(0, t18), (1, t20)]) fun t21 =>
  alK 289 ty289 h5 fun t22 h6 =>
  bH (st ty289 h6 t22 t21) fun h7 =>
  lwK h7 (bV (fa 0 t16) fun t23 =>
  bV (fa 0 t23) fun t24 =>
  psK h7 [t24] (bV (ld ty3 h7 t24) fun t25 =>
  bV (aNilCheck t7) fun t26 =>
  bV (fa 0 t26) fun t27 =>
  psK h7 [t27] (bV (ld ty3 h7 t27) fun t28 =>
  bV (aBin Ty .eql 3 t25 t28) fun t29 =>
  lwK h7 (psK h7 [t22] (bV (ld ty289 h7 t22) fun t30 =>
  psK h7 [t8] (bV (aLookup Ty h7 286 t8 t30 false) fun t31 =>
  guardV t31 false (fun k => k t7 h7) h7 fun t32 h8 =>
  guardV t31 false (fun k => bV (fa 4 t16) fun t34 =>
  k t34 h8) h8 fun t33 h9 =>
  guardV t31 false (fun k => psK h9 [t33] (bV (ld ty3 h9 t33) fun t36 =>
  k t36 h9)) h9 fun t35 h10 =>
  guardV t31 false (fun k => bV (fa 5 t16) fun t38 =>
  k t38 h10) h10 fun t37 h11 =>
  guardV t31 false (fun k => psK h11 [t37] (bV (ld ty54 h11 t37) fun t40 =>
  k t40 h11)) h11 fun t39 h12 =>
  guardD t31 false (fun k => caD (F 209 [t32, t35, t39] (lw0 h12)) h12 [] k) h12 fun t41 h13 h14 =>
  guardV t31 false (fun k => bV (aUn .not t41) fun t43 =>
  k t43 h14) h14 fun t42 h15 =>
  pickK t31 (.bool true) t42 fun t44 =>
  guardV t44 false (fun k => k t29 h15) h15 fun t45 h16 =>
  guardV t44 false (fun k => k t45 h16) h16 fun t46 h17 =>
  guardV t46 true (fun k => k t7 h17) h17 fun t47 h18 =>
  guardV t46 true (fun k => bV (fa 0 t16) fun t49 =>
  k t49 h18) h18 fun t48 h19 =>
  guardV t46 true (fun k => bV (fa 1 t48) fun t51 =>
  k t51 h19) h19 fun t50 h20 =>
  guardV t46 true (fun k => psK h20 [t50] (bV (ld ty3 h20 t50) fun t53 =>
  k t53 h20)) h20 fun t52 h21 =>
  guardV t46 true (fun k => bV (fa 0 t16) fun t55 =>
  k t55 h21) h21 fun t54 h22 =>
  guardV t46 true (fun k => bV (fa 2 t54) fun t57 =>
  k t57 h22) h22 fun t56 h23 =>
  guardV t46 true (fun k => psK h23 [t56] (bV (ld ty54 h23 t56) fun t59 =>
  k t59 h23)) h23 fun t58 h24 =>
  guardD t46 true (fun k => caD (F 209 [t47, t52, t58] (lw0 h24)) h24 [] k) h24 fun t60 h25 h26 =>
  guardV t46 true (fun k => bV (aUn .not t60) fun t62 =>
  k t62 h26) h26 fun t61 h27 =>
  guardV t46 true (fun k => k t61 h27) h27 fun t63 h28 =>
  guardV t63 false (fun k => k t7 h28) h28 fun t64 h29 =>
  guardV t63 false (fun k => bV (aNilCheck t64) fun t66 =>
  k t66 h29) h29 fun t65 h30 =>
  guardV t63 false (fun k => bV (fa 3 t65) fun t68 =>
  k t68 h30) h30 fun t67 h31 =>
  guardV t63 false (fun k => psK h31 [t67] (bV (ld ty211 h31 t67) fun t70 =>
  k t70 h31)) h31 fun t69 h32 =>
  guardV t63 false (fun k => bV (fa 0 t16) fun t72 =>
  k t72 h32) h32 fun t71 h33 =>
  guardV t63 false (fun k => bV (fa 1 t71) fun t74 =>
  k t74 h33) h33 fun t73 h34 =>
  guardV t63 false (fun k => psK h34 [t73] (bV (ld ty3 h34 t73) fun t76 =>
  k t76 h34)) h34 fun t75 h35 =>
  guardV t63 false (fun k => psK h35 [t69] (bV (aLookup Ty h35 211 t69 t75 false) fun t78 =>
  k t78 h35)) h35 fun t77 h36 =>
  guardV t63 false (fun k => bV (aField Ty 285 t77 0) fun t80 =>
  k t80 h36) h36 fun t79 h37 =>
  guardV t63 false (fun k => bV (aBin Ty .neq 3 t79 (.int .i64 2)) fun t82 =>
  k t82 h37) h37 fun t81 h38 =>
  guardV t46 true (fun k => pickK t63 (.bool true) t81 fun t84 =>
  k t84 h38) h38 fun t83 h39 =>
  guardV t44 false (fun k => pickK t46 t83 (.bool false) fun t86 =>
  k t86 h39) h39 fun t85 h40 =>
  pickK t44 (.bool true) t85 fun t87 =>
  cdK t87 (some ((.bool false), h40))
  (bV (ld ty289 h40 t22) fun t88 =>
  bH (aMapUpdate Ty h40 286 t8 t88 (.bool true)) fun h41 =>
  bV (fa 4 t16) fun t89 =>
  bV (ld ty3 h41 t89) fun t90 =>
  bV (aLookup Ty h41 287 t9 t90 false) fun t91 =>
  bV (aBin Ty .add 3 t91 (.int .i64 1)) fun t92 =>
  bH (aMapUpdate Ty h41 287 t9 t90 t92) fun h42 =>
  bV (aBin Ty .add 3 t12 (.int .i64 1)) fun t93 =>
  j1 t7 t8 t9 t10 t11 t93 h42))))))))
  (bV (aNilCheck t7) fun t94 =>
  bV (fa 3 t94) fun t95 =>
  bV (ld ty211 h3 t95) fun t96 =>
  bVH (aRangeStr Ty h3 211 t96) fun t97 h43 =>
  lpK (Value → Value → H → Rz) (fun _ _ _ => none) (fun j2 => fun t98 t99 h44 =>
  bVH (aNextMap h44 t99) fun t100 h45 =>
  bV (aExtract t100 0) fun t101 =>
  cdK t101 (bV (aEntry h45 t99) fun t102 =>
  bV (aExtract t102 0) fun t103 =>
  bV (aExtract t102 1) fun t104 =>
  alK 285 ty285 h45 fun t105 h46 =>
  bH (st ty285 h46 t105 t104) fun h47 =>
  bV (fa 1 t105) fun t106 =>
  bV (fa 1 t106) fun t107 =>
  bV (ld ty3 h47 t107) fun t108 =>
  bV (aLookup Ty h47 287 t98 t103 false) fun t109 =>
  bV (aBin Ty .neq 3 t108 t109) fun t110 =>
  guardV t110 false (fun k => bV (fa 0 t105) fun t112 =>
  k t112 h47) h47 fun t111 h48 =>
  guardV t110 false (fun k => bV (ld ty3 h48 t111) fun t114 =>
  k t114 h48) h48 fun t113 h49 =>
  guardV t110 false (fun k => bV (aBin Ty .neq 3 t113 (.int .i64 1)) fun t116 =>
  k t116 h49) h49 fun t115 h50 =>
  guardV t110 false (fun k => k t115 h50) h50 fun t117 h51 =>
  guardV t117 true (fun k => bV (fa 1 t105) fun t119 =>
  k t119 h51) h51 fun t118 h52 =>
  guardV t117 true (fun k => bV (fa 1 t118) fun t121 =>
  k t121 h52) h52 fun t120 h53 =>
  guardV t117 true (fun k => bV (ld ty3 h53 t120) fun t123 =>
  k t123 h53) h53 fun t122 h54 =>
  guardV t117 true (fun k => bV (aBin Ty .neq 3 t122 (.int .i64 1)) fun t125 =>
  k t125 h54) h54 fun t124 h55 =>
  guardV t110 false (fun k => pickK t117 t124 (.bool false) fun t127 =>
  k t127 h55) h55 fun t126 h56 =>
  pickK t110 (.bool true) t126 fun t128 =>
  cdK t128 (some ((.bool false), h56))
  (j2 t98 t99 h56))
  (some ((.bool true), h45))) NN t9 t97 h43)) NN a0 t1 t2 t5 t6 (.int .i64 0) h2
theorem e144 (F : FK) (a0 : Value) (h : H) : runK Ty F (lvT 144) (jvT 144) NN FU Go.Proofs.Tryz.f144 [a0] h = F144 F a0 h := by kernel_rfl
def F145 (F : FK) (a0 : Value) (h0 : H) : Rz :=
  bV (aNilCheck a0) fun t1 =>
  bV (fa 1 t1) fun t2 =>
  bV (ld ty41 h0 t2) fun t3 =>
  bV (aLen Ty h0 41 t3) fun t4 =>
  lpK (Value → Value → Value → H → Rz) (fun _ _ _ _ => none) (fun j1 => fun t5 t6 t7 h1 =>
  bV (aBin Ty .lss 3 t7 t6) fun t8 =>
  cdK t8 (bV (aNilCheck t5) fun t9 =>
  bV (fa 3 t9) fun t10 =>
  bV (ld ty211 h1 t10) fun t11 =>
  bV (aLookup Ty h1 211 t11 t7 false) fun t12 =>
  alK 285 ty285 h1 fun t13 h2 =>
  bH (st ty285 h2 t13 t12) fun h3 =>
  bV (fa 0 t13) fun t14 =>
  bV (ld ty3 h3 t14) fun t15 =>
  bV (aBin Ty .eql 3 t15 (.int .i64 1)) fun t16 =>
  guardV t16 true (fun k => k t5 h3) h3 fun t17 h4 =>
  guardV t16 true (fun k => bV (fa 1 t13) fun t19 =>
  k t19 h4) h4 fun t18 h5 =>
  guardV t16 true (fun k => bV (ld ty75 h5 t18) fun t21 =>
  k t21 h5) h5 fun t20 h6 =>
  guardV t16 true (fun k => bVH (F 210 [t17, t20] h6) fun t23 h8 =>
  k t23 h8) h6 fun t22 h7 =>
  guardV t16 true (fun k => bV (aUn .not t22) fun t25 =>
  k t25 h7) h7 fun t24 h9 =>
  pickK t16 t24 (.bool false) fun t26 =>
  cdK t26 (some ((.bool false), h9))
  (bV (aBin Ty .add 3 t7 (.int .i64 1)) fun t27 =>
  j1 t5 t6 t27 h9))
  (some ((.bool true), h1))) NN a0 t4 (.int .i64 0) h0
theorem e145 (F : FK) (a0 : Value) (h : H) : runK Ty F (lvT 145) (jvT 145) NN FU Go.Proofs.Tryz.f145 [a0] h = F145 F a0 h := by kernel_rfl
def F146 (F : FK) (a0 : Value) (h0 : H) : Rz :=
  bVH (F 211 [a0] h0) fun t1 h1 =>
  bVH (aRangeStr Ty h1 292 t1) fun t2 h2 =>
  lpK (Value → Value → Value → H → Rz) (fun _ _ _ _ => none) (fun j1 => fun t3 t4 t5 h3 =>
  bVH (aNextMap h3 t5) fun t6 h4 =>
  bV (aExtract t6 0) fun t7 =>
  cdK t7 (bV (aEntry h4 t5) fun t8 =>
  bV (aExtract t8 0) fun t9 =>
  jn ((Value → Value → Value → Value → Value → H → Rz) × Unit) (lpK ((Value → Value → Value → Value → Value → H → Rz) × Unit) (fun _ _ _ _ _ _ => none, ()) (fun j2 => (fun t10 t11 t12 t13 t14 h5 =>
  bV (aLookup Ty h5 292 t11 t12 true) fun t15 =>
  bV (aExtract t15 0) fun t16 =>
  bV (aExtract t15 1) fun t17 =>
  alK 56 ty56 h5 fun t18 h6 =>
  bH (st ty56 h6 t18 t16) fun h7 =>
  lwK h7 (guardV t17 true (fun k => bV (fa 0 t18) fun t20 =>
  k t20 h7) h7 fun t19 h8 =>
  guardV t17 true (fun k => psK h8 [t19] (bV (ld ty3 h8 t19) fun t22 =>
  k t22 h8)) h8 fun t21 h9 =>
  guardV t17 true (fun k => k t10 h9) h9 fun t23 h10 =>
  guardV t17 true (fun k => bV (aNilCheck t23) fun t25 =>
  k t25 h10) h10 fun t24 h11 =>
  guardV t17 true (fun k => bV (fa 0 t24) fun t27 =>
  k t27 h11) h11 fun t26 h12 =>
  guardV t17 true (fun k => psK h12 [t26] (bV (ld ty3 h12 t26) fun t29 =>
  k t29 h12)) h12 fun t28 h13 =>
  guardV t17 true (fun k => bV (aBin Ty .eql 3 t21 t28) fun t31 =>
  k t31 h13) h13 fun t30 h14 =>
  pickK t17 t30 (.bool false) fun t32 =>
  cdK t32 (bV (fa 1 t18) fun t33 =>
  bV (ld ty3 h14 t33) fun t34 =>
  bV (aBin Ty .sub 3 t13 (.int .i64 1)) fun t35 =>
  bV (aBin Ty .lss 3 t35 (.int .i64 0)) fun t36 =>
  cdK t36 (some ((.bool false), h14))
  (j2.1 t10 t11 t34 t35 t14 h14))
  (j1 t10 t11 t14 h14)), ())) NN) fun j3 =>
  bV (aNilCheck t3) fun t37 =>
  bV (fa 1 t37) fun t38 =>
  bV (ld ty41 h4 t38) fun t39 =>
  bV (aLen Ty h4 41 t39) fun t40 =>
  bV (aLookup Ty h4 292 t4 t9 true) fun t41 =>
  bV (aExtract t41 0) fun t42 =>
  bV (aExtract t41 1) fun t43 =>
  alK 56 ty56 h4 fun t44 h15 =>
  bH (st ty56 h15 t44 t42) fun h16 =>
  lwK h16 (guardV t43 true (fun k => bV (fa 0 t44) fun t46 =>
  k t46 h16) h16 fun t45 h17 =>
  guardV t43 true (fun k => psK h17 [t45] (bV (ld ty3 h17 t45) fun t48 =>
  k t48 h17)) h17 fun t47 h18 =>
  guardV t43 true (fun k => k t3 h18) h18 fun t49 h19 =>
  guardV t43 true (fun k => bV (aNilCheck t49) fun t51 =>
  k t51 h19) h19 fun t50 h20 =>
  guardV t43 true (fun k => bV (fa 0 t50) fun t53 =>
  k t53 h20) h20 fun t52 h21 =>
  guardV t43 true (fun k => psK h21 [t52] (bV (ld ty3 h21 t52) fun t55 =>
  k t55 h21)) h21 fun t54 h22 =>
  guardV t43 true (fun k => bV (aBin Ty .eql 3 t47 t54) fun t57 =>
  k t57 h22) h22 fun t56 h23 =>
  pickK t43 t56 (.bool false) fun t58 =>
  cdK t58 (bV (fa 1 t44) fun t59 =>
  bV (ld ty3 h23 t59) fun t60 =>
  bV (aBin Ty .sub 3 t40 (.int .i64 1)) fun t61 =>
  bV (aBin Ty .lss 3 t61 (.int .i64 0)) fun t62 =>
  cdK t62 (some ((.bool false), h23))
  (j3.1 t3 t4 t60 t61 t5 h23))
  (j1 t3 t4 t5 h23)))
  (some ((.bool true), h4))) NN a0 t1 t2 h2
theorem e146 (F : FK) (a0 : Value) (h : H) : runK Ty F (lvT 146) (jvT 146) NN FU Go.Proofs.Tryz.f146 [a0] h = F146 F a0 h := by kernel_rfl
def F147 (F : FK) (a0 : Value) (a1 : Value) (a2 : Value) (h0 : H) : Rz :=
  lpK (Value → Value → Value → Value → Value → H → Rz) (fun _ _ _ _ _ _ => none) (fun j1 => fun t1 t2 t3 t4 t5 h1 =>
  bV (aBin Ty .lss 3 t5 t4) fun t6 =>
  cdK t6 (bV (aBin Ty .shl 54 t3 (.int .u64 8)) fun t7 =>
  bV (ld ty3 h1 t2) fun t8 =>
  bV (fa 1 t1) fun t9 =>
  bV (aIndexAddr Ty 38 t9 t8) fun t10 =>
  bV (ld ty5 h1 t10) fun t11 =>
  bV (aConv Ty 54 t11) fun t12 =>
  bV (aBin Ty .or 54 t7 t12) fun t13 =>
  bV (ld ty3 h1 t2) fun t14 =>
  bV (aBin Ty .add 3 t14 (.int .i64 1)) fun t15 =>
  bH (st ty3 h1 t2 t15) fun h2 =>
  bV (aBin Ty .add 3 t5 (.int .i64 1)) fun t16 =>
  j1 t1 t2 t13 t4 t16 h2)
  (some (t3, h1))) NN a1 a2 (.int .u32 0) a0 (.int .i64 0) h0
theorem e147 (F : FK) (a0 : Value) (a1 : Value) (a2 : Value) (h : H) : runK Ty F (lvT 147) (jvT 147) NN FU Go.Proofs.Tryz.f147 [a0, a1, a2] h = F147 F a0 a1 a2 h := by kernel_rfl
def F148 (F : FK) (a0 : Value) (a1 : Value) (h0 : H) : Rz :=
  bxK 75 a1 h0 fun t1 h1 =>
  alK 40 ty40 h1 fun t2 h2 =>
  bV (ld ty75 h2 t1) fun t3 =>
  bVH (F 212 [a0, t3] h2) fun t4 h3 =>
  bV (aUn .not t4) fun t5 =>
  cdK t5 (bV (aBuild Ty 40 []) fun t6 =>
  bH (st ty40 h3 t2 t6) fun h4 =>
  bV (ld ty40 h4 t2) fun t7 =>
  some (.tuple #[t7, (.bool false)], h4))
  (bV (aBuild Ty 296 []) fun t8 =>
  bxK 296 t8 h3 fun t9 h5 =>
  bV (fa 0 t1) fun t10 =>
  bV (ld ty54 h5 t10) fun t11 =>
  bVH (F 213 [t9, t11, (.int .i64 4)] h5) fun t12 h6 =>
  bV (fa 1 t1) fun t13 =>
  bV (ld ty3 h6 t13) fun t14 =>
  bV (aConv Ty 54 t14) fun t15 =>
  bVH (F 213 [t9, t15, (.int .i64 2)] h6) fun t16 h7 =>
  bV (fa 2 t1) fun t17 =>
  bV (ld ty3 h7 t17) fun t18 =>
  bV (aConv Ty 54 t18) fun t19 =>
  bVH (F 213 [t9, t19, (.int .i64 4)] h7) fun t20 h8 =>
  bV (ld ty75 h8 t1) fun t21 =>
  bVH (F 214 [t21] h8) fun t22 h9 =>
  bV (aLen Ty h9 87 t22) fun t23 =>
  lpK (Value → Value → Value → Value → Value → Value → Value → H → Rz) (fun _ _ _ _ _ _ _ _ => none) (fun j1 => fun t24 t25 t26 t27 t28 t29 t30 h10 =>
  bV (aBin Ty .lss 3 t30 t29) fun t31 =>
  cdK t31 (bV (aIndexAddr Ty 87 t28 t30) fun t32 =>
  bV (ld ty3 h10 t32) fun t33 =>
  bV (aBin Ty .add 3 t33 (.int .i64 1)) fun t34 =>
  bV (aConv Ty 54 t34) fun t35 =>
  bVH (F 213 [t27, t35, (.int .i64 2)] h10) fun t36 h11 =>
  bV (aBin Ty .add 3 t30 (.int .i64 1)) fun t37 =>
  j1 t24 t25 t26 t27 t28 t29 t37 h11)
  (bV (fa 8 t25) fun t38 =>
  bV (ld ty9 h10 t38) fun t39 =>
  bV (aLen Ty h10 9 t39) fun t40 =>
  bV (aConv Ty 54 t40) fun t41 =>
  bVH (F 213 [t27, t41, (.int .i64 1)] h10) fun t42 h12 =>
  bV (aBuild Ty 40 [(0, t24)]) fun t43 =>
  alK 40 ty40 h12 fun t44 h13 =>
  bH (st ty40 h13 t44 t43) fun h14 =>
  lwK h14 (bV (fa 1 t44) fun t45 =>
  bV (aSlice Ty 38 t45 none none none) fun t46 =>
  bV (aNilCheck t27) fun t47 =>
  bV (fa 0 t47) fun t48 =>
  psK h14 [t48] (bV (ld ty22 h14 t48) fun t49 =>
  bV (fa 8 t25) fun t50 =>
  psK h14 [t50] (bV (ld ty9 h14 t50) fun t51 =>
  psK h14 [t49, t51] (bVH (aAppend Ty h14 22 9 t49 t51) fun t52 h15 =>
  psK h15 [t46, t52] (bVH (cpK Ty h15 22 t46 t52) fun t53 h16 =>
  bV (ld ty40 h16 t44) fun t54 =>
  bH (st ty40 h16 t26 t54) fun h17 =>
  bV (ld ty40 h17 t26) fun t55 =>
  some (.tuple #[t55, (.bool true)], h17)))))))) NN a0 t1 t2 t9 t22 t23 (.int .i64 0) h9)
theorem e148 (F : FK) (a0 : Value) (a1 : Value) (h : H) : runK Ty F (lvT 148) (jvT 148) NN FU Go.Proofs.Tryz.f148 [a0, a1] h = F148 F a0 a1 h := by kernel_rfl
def F149 (F : FK) (a0 : Value) (a1 : Value) (h0 : H) : Rz :=
  bxK 139 a0 h0 fun t1 h1 =>
  bV (ld ty139 h1 t1) fun t2 =>
  bV (aBin Ty .eql 139 t2 (.pointer none)) fun t3 =>
  cdK t3 (some ((.int .i64 1), h1))
  (lwK h1 (psK h1 [t1] (bV (ld ty139 h1 t1) fun t4 =>
  bV (aNilCheck t4) fun t5 =>
  bV (fa 7 t5) fun t6 =>
  psK h1 [t6] (bV (ld ty5 h1 t6) fun t7 =>
  psK h1 [t1] (bV (ld ty139 h1 t1) fun t8 =>
  bV (aNilCheck t8) fun t9 =>
  bV (fa 8 t9) fun t10 =>
  psK h1 [t10] (bV (ld ty54 h1 t10) fun t11 =>
  psK h1 [t1] (bV (ld ty139 h1 t1) fun t12 =>
  bV (aNilCheck t12) fun t13 =>
  bV (fa 9 t13) fun t14 =>
  psK h1 [t14] (bV (ld ty54 h1 t14) fun t15 =>
  caD (F 215 [t7, t11, t15, a1] (lw0 h1)) h1 [] fun t16 h2 h3 =>
  bV (aExtract t16 0) fun t17 =>
  bV (aExtract t16 1) fun t18 =>
  bV (aUn .not t18) fun t19 =>
  guardV t19 false (fun k => k a1 h3) h3 fun t20 h4 =>
  guardV t19 false (fun k => k (.func (.func 217) #[] #[t1]) h4) h4 fun t21 h5 =>
  guardV t19 false (fun k => bVH (F 216 [t20, t21] h5) fun t23 h7 =>
  k t23 h7) h5 fun t22 h6 =>
  pickK t19 (.bool true) t22 fun t24 =>
  cdK t24 (some ((.int .i64 1), h6))
  (jn (Value → Value → H → Rz) (fun t25 t26 h8 =>
  lwK h8 (psK h8 [t26] (bV (ld ty139 h8 t26) fun t27 =>
  bV (aNilCheck t27) fun t28 =>
  bV (fa 7 t28) fun t29 =>
  psK h8 [t29] (bV (ld ty5 h8 t29) fun t30 =>
  psK h8 [t26] (bV (ld ty139 h8 t26) fun t31 =>
  bV (aNilCheck t31) fun t32 =>
  bV (fa 8 t32) fun t33 =>
  psK h8 [t33] (bV (ld ty54 h8 t33) fun t34 =>
  psK h8 [t26] (bV (ld ty139 h8 t26) fun t35 =>
  bV (aNilCheck t35) fun t36 =>
  bV (fa 9 t36) fun t37 =>
  psK h8 [t37] (bV (ld ty54 h8 t37) fun t38 =>
  caD (F 215 [t30, t34, t38, t25] (lw0 h8)) h8 [] fun t39 h9 h10 =>
  bV (aExtract t39 0) fun t40 =>
  bV (aExtract t39 1) fun t41 =>
  bV (aLen Ty h10 100 t40) fun t42 =>
  lpK (Value → Value → Value → Value → Value → H → Rz) (fun _ _ _ _ _ _ => none) (fun j2 => fun t43 t44 t45 t46 t47 h11 =>
  bV (aBin Ty .lss 3 t47 t46) fun t48 =>
  cdK t48 (bV (aIndexAddr Ty 100 t45 t47) fun t49 =>
  bV (ld ty22 h11 t49) fun t50 =>
  lwK h11 (psK h11 [t44] (bV (ld ty139 h11 t44) fun t51 =>
  bV (aNilCheck t51) fun t52 =>
  bV (fa 0 t52) fun t53 =>
  psK h11 [t53] (bV (ld ty24 h11 t53) fun t54 =>
  psK h11 [t44] (bV (ld ty139 h11 t44) fun t55 =>
  bV (aNilCheck t55) fun t56 =>
  bV (fa 1 t56) fun t57 =>
  psK h11 [t57] (bV (ld ty3 h11 t57) fun t58 =>
  psK h11 [t44] (bV (ld ty139 h11 t44) fun t59 =>
  bV (aNilCheck t59) fun t60 =>
  bV (fa 2 t60) fun t61 =>
  psK h11 [t61] (bV (ld ty28 h11 t61) fun t62 =>
  psK h11 [t44] (bV (ld ty139 h11 t44) fun t63 =>
  bV (aNilCheck t63) fun t64 =>
  bV (fa 10 t64) fun t65 =>
  psK h11 [t65] (bV (ld ty3 h11 t65) fun t66 =>
  caD (F 203 [t62, t66] (lw0 h11)) h11 [t44, t53, t44, t57] fun t67 h12 h13 =>
  caD (F 19 [t54, t58, t67, t50] (lw0 h13)) h13 [] fun t68 h14 h15 =>
  bV (ld ty139 h15 t44) fun t69 =>
  bV (aNilCheck t69) fun t70 =>
  bV (fa 10 t70) fun t71 =>
  bV (ld ty3 h15 t71) fun t72 =>
  bV (aBin Ty .add 3 t72 (.int .i64 1)) fun t73 =>
  bV (aNilCheck t69) fun t74 =>
  bV (fa 10 t74) fun t75 =>
  bH (st ty3 h15 t75 t73) fun h16 =>
  bV (aBin Ty .add 3 t47 (.int .i64 1)) fun t76 =>
  j2 t43 t44 t45 t46 t76 h16))))))))))
  (bV (ld ty139 h11 t44) fun t77 =>
  bV (aNilCheck t77) fun t78 =>
  bV (fa 9 t78) fun t79 =>
  bV (ld ty54 h11 t79) fun t80 =>
  bV (aBin Ty .add 54 t80 (.int .u32 1)) fun t81 =>
  bV (aNilCheck t77) fun t82 =>
  bV (fa 9 t82) fun t83 =>
  bH (st ty54 h11 t83 t81) fun h17 =>
  bV (aLen Ty h17 218 t43) fun t84 =>
  lpK (Value → Value → Value → Value → H → Rz) (fun _ _ _ _ _ => none) (fun j3 => fun t85 t86 t87 t88 h18 =>
  bV (aBin Ty .lss 3 t88 t87) fun t89 =>
  cdK t89 (bV (aIndexAddr Ty 218 t86 t88) fun t90 =>
  bV (ld ty278 h18 t90) fun t91 =>
  alK 278 ty278 h18 fun t92 h19 =>
  bH (st ty278 h19 t92 t91) fun h20 =>
  lwK h20 (psK h20 [t85] (bV (ld ty139 h20 t85) fun t93 =>
  bV (aNilCheck t93) fun t94 =>
  bV (fa 11 t94) fun t95 =>
  psK h20 [t95] (bV (ld ty41 h20 t95) fun t96 =>
  bV (fa 0 t92) fun t97 =>
  psK h20 [t97] (bV (ld ty3 h20 t97) fun t98 =>
  psK h20 [t85] (bV (ld ty139 h20 t85) fun t99 =>
  bV (aNilCheck t99) fun t100 =>
  bV (fa 12 t100) fun t101 =>
  psK h20 [t101] (bV (ld ty207 h20 t101) fun t102 =>
  bV (fa 0 t92) fun t103 =>
  psK h20 [t103] (bV (ld ty3 h20 t103) fun t104 =>
  bV (fa 1 t92) fun t105 =>
  psK h20 [t105] (bV (ld ty40 h20 t105) fun t106 =>
  bV (aIndexAddr Ty 41 t96 t98) fun t107 =>
  psK h20 [t107] (ckK [t107] [] [] [t103] (bH (st ty40 h20 t107 t106) fun h21 =>
  psK h21 [t102] (bVH (aMapEntry Ty h21 207 t102 t104) fun t108 h22 =>
  bV (aExtract t108 1) fun t109 =>
  psK h22 [t102] (bH (aEntryStore h22 t102 t109 (.bool true)) fun h23 =>
  bV (aBin Ty .add 3 t88 (.int .i64 1)) fun t110 =>
  j3 t85 t86 t87 t110 h23)))))))))))))
  (some ((.int .i64 0), h18))) NN t44 t43 t84 (.int .i64 0) h17)) NN t25 t26 t40 t42 (.int .i64 0) h10)))))))) fun j1 =>
  bV (aLen Ty h6 218 a1) fun t111 =>
  bV (aBin Ty .add 3 t111 (.int .i64 1)) fun t112 =>
  bV (ld ty139 h6 t1) fun t113 =>
  bVH (F 218 [t113] h6) fun t114 h24 =>
  bV (aBin Ty .gtr 3 t112 t114) fun t115 =>
  cdK t115 (bV (ld ty139 h24 t1) fun t116 =>
  bVH (F 110 [t116] h24) fun t117 h25 =>
  j1 a1 t1 h25)
  (j1 a1 t1 h24))))))))))
theorem e149 (F : FK) (a0 : Value) (a1 : Value) (h : H) : runK Ty F (lvT 149) (jvT 149) NN FU Go.Proofs.Tryz.f149 [a0, a1] h = F149 F a0 a1 h := by kernel_rfl
def F150 (F : FK) (a0 : Value) (h0 : H) : Rz :=
  bV (aBin Ty .eql 147 a0 (.pointer none)) fun t1 =>
  cdK t1 (some ((.slice none 0 0), h0))
  (bV (aNilCheck a0) fun t2 =>
  bV (fa 1 t2) fun t3 =>
  bV (ld ty205 h0 t3) fun t4 =>
  bVH (F 219 [t4] h0) fun t5 h1 =>
  bVH (F 206 [t5] h1) fun t6 h2 =>
  bV (aLen Ty h2 87 t6) fun t7 =>
  lpK (Value → Value → Value → Value → Value → H → Rz) (fun _ _ _ _ _ _ => none) (fun j1 => fun t8 t9 t10 t11 t12 h3 =>
  bV (aBin Ty .lss 3 t12 t11) fun t13 =>
  cdK t13 (bV (aIndexAddr Ty 87 t10 t12) fun t14 =>
  bV (ld ty3 h3 t14) fun t15 =>
  bV (aNilCheck t8) fun t16 =>
  bV (fa 1 t16) fun t17 =>
  bV (ld ty205 h3 t17) fun t18 =>
  bV (aLookup Ty h3 205 t18 t15 false) fun t19 =>
  bV (aBuild Ty 278 [(0, t15), (1, t19)]) fun t20 =>
  bVH (aBuildSlice Ty h3 218 1 [(0, t20)]) fun t21 h4 =>
  bVH (aAppend Ty h4 218 218 t9 t21) fun t22 h5 =>
  bV (aBin Ty .add 3 t12 (.int .i64 1)) fun t23 =>
  j1 t8 t22 t10 t11 t23 h5)
  (some (t9, h3))) NN a0 (.slice none 0 0) t6 t7 (.int .i64 0) h2)
theorem e150 (F : FK) (a0 : Value) (h : H) : runK Ty F (lvT 150) (jvT 150) NN FU Go.Proofs.Tryz.f150 [a0] h = F150 F a0 h := by kernel_rfl
def F157 (F : FK) (a0 : Value) (a1 : Value) (h0 : H) : Rz :=
  bVH (F 222 [a0, a1] h0) fun t1 h1 =>
  bV (aBin Ty .geq 3 t1 (.int .i64 0)) fun t2 =>
  some (t2, h1)
theorem e157 (F : FK) (a0 : Value) (a1 : Value) (h : H) : runK Ty F (lvT 157) (jvT 157) NN FU Go.Proofs.Tryz.f157 [a0, a1] h = F157 F a0 a1 h := by kernel_rfl
def F158 (F : FK) (a0 : Value) (h0 : H) : Rz :=
  bV (aBin Ty .lss 21 a0 (.int .i32 33)) fun t1 =>
  guardV t1 false (fun k => k a0 h0) h0 fun t2 h1 =>
  guardV t1 false (fun k => bV (aBin Ty .gtr 21 t2 (.int .i32 126)) fun t4 =>
  k t4 h1) h1 fun t3 h2 =>
  pickK t1 (.bool true) t3 fun t5 =>
  guardV t5 false (fun k => k a0 h2) h2 fun t6 h3 =>
  guardV t5 false (fun k => bV (aBin Ty .eql 21 t6 (.int .i32 47)) fun t8 =>
  k t8 h3) h3 fun t7 h4 =>
  pickK t5 (.bool true) t7 fun t9 =>
  some (t9, h4)
theorem e158 (F : FK) (a0 : Value) (h : H) : runK Ty F (lvT 158) (jvT 158) NN FU Go.Proofs.Tryz.f158 [a0] h = F158 F a0 h := by kernel_rfl
def F159 (F : FK) (a0 : Value) (h0 : H) : Rz :=
  bxK 56 a0 h0 fun t1 h1 =>
  bV (fa 0 t1) fun t2 =>
  bV (ld ty3 h1 t2) fun t3 =>
  bV (aConv Ty 203 t3) fun t4 =>
  bV (fa 1 t1) fun t5 =>
  bV (ld ty3 h1 t5) fun t6 =>
  bV (aConv Ty 203 t6) fun t7 =>
  bV (aComplex t4 t7) fun t8 =>
  some (t8, h1)
theorem e159 (F : FK) (a0 : Value) (h : H) : runK Ty F (lvT 159) (jvT 159) NN FU Go.Proofs.Tryz.f159 [a0] h = F159 F a0 h := by kernel_rfl
def F160 (F : FK) (h0 : H) : Rz :=
  alK 56 ty56 h0 fun t1 h1 =>
  bV (aBuild Ty 56 [(0, (.int .i64 (-1)))]) fun t2 =>
  bH (st ty56 h1 t1 t2) fun h2 =>
  bV (ld ty56 h2 t1) fun t3 =>
  some (t3, h2)
theorem e160 (F : FK) (h : H) : runK Ty F (lvT 160) (jvT 160) NN FU Go.Proofs.Tryz.f160 [] h = F160 F h := by kernel_rfl
def F161 (F : FK) (a0 : Value) (a1 : Value) (a2 : Value) (h0 : H) : Rz :=
  bV (aConv Ty 203 a1) fun t1 =>
  bV (aBin Ty .geq 203 a0 t1) fun t2 =>
  guardV t2 true (fun k => k a0 h0) h0 fun t3 h1 =>
  guardV t2 true (fun k => k a2 h1) h1 fun t4 h2 =>
  guardV t2 true (fun k => bV (aConv Ty 203 t4) fun t6 =>
  k t6 h2) h2 fun t5 h3 =>
  guardV t2 true (fun k => bV (aBin Ty .lss 203 t3 t5) fun t8 =>
  k t8 h3) h3 fun t7 h4 =>
  pickK t2 t7 (.bool false) fun t9 =>
  some (t9, h4)
theorem e161 (F : FK) (a0 : Value) (a1 : Value) (a2 : Value) (h : H) : runK Ty F (lvT 161) (jvT 161) NN FU Go.Proofs.Tryz.f161 [a0, a1, a2] h = F161 F a0 a1 a2 h := by kernel_rfl
def F162 (F : FK) (a0 : Value) (h0 : H) : Rz :=
  jn ((Value → Value → Value → Value → H → Rz) × Unit) (lpK ((Value → Value → Value → Value → H → Rz) × Unit) (fun _ _ _ _ _ => none, ()) (fun j1 => (fun t1 t2 t3 t4 h1 =>
  bVH (F 163 [t1, t4] h1) fun t5 h2 =>
  bV (aExtract t5 0) fun t6 =>
  bV (aExtract t5 1) fun t7 =>
  alK 40 ty40 h2 fun t8 h3 =>
  bH (st ty40 h3 t8 t6) fun h4 =>
  bV (aUn .not t7) fun t9 =>
  cdK t9 (some (.tuple #[t2, t3], h4))
  (jn (Value → Value → Value → Value → H → Rz) (fun t10 t11 t12 t13 h5 =>
  bV (aBin Ty .add 3 t13 (.int .i64 1)) fun t14 =>
  j1.1 t10 t11 t12 t14 h5) fun j3 =>
  bV (ld ty40 h4 t8) fun t15 =>
  bVH (F 208 [t15] h4) fun t16 h6 =>
  bV (aExtract t16 0) fun t17 =>
  bV (aExtract t16 1) fun t18 =>
  alK 159 ty159 h6 fun t19 h7 =>
  bH (st ty159 h7 t19 t17) fun h8 =>
  cdK t18 (bV (ld ty159 h8 t19) fun t20 =>
  bVH (aBuildSlice Ty h8 168 1 [(0, t20)]) fun t21 h9 =>
  bVH (aAppend Ty h9 168 168 t2 t21) fun t22 h10 =>
  bVH (aBuildSlice Ty h10 87 1 [(0, t4)]) fun t23 h11 =>
  bVH (aAppend Ty h11 87 87 t3 t23) fun t24 h12 =>
  j3 t1 t22 t24 t4 h12)
  (j3 t1 t2 t3 t4 h8)), ())) NN) fun j2 =>
  bVH (F 163 [a0, (.int .i64 0)] h0) fun t25 h13 =>
  bV (aExtract t25 0) fun t26 =>
  bV (aExtract t25 1) fun t27 =>
  alK 40 ty40 h13 fun t28 h14 =>
  bH (st ty40 h14 t28 t26) fun h15 =>
  bV (aUn .not t27) fun t29 =>
  cdK t29 (some (.tuple #[(.slice none 0 0), (.slice none 0 0)], h15))
  (jn (Value → Value → Value → Value → H → Rz) (fun t30 t31 t32 t33 h16 =>
  bV (aBin Ty .add 3 t33 (.int .i64 1)) fun t34 =>
  j2.1 t30 t31 t32 t34 h16) fun j4 =>
  bV (ld ty40 h15 t28) fun t35 =>
  bVH (F 208 [t35] h15) fun t36 h17 =>
  bV (aExtract t36 0) fun t37 =>
  bV (aExtract t36 1) fun t38 =>
  alK 159 ty159 h17 fun t39 h18 =>
  bH (st ty159 h18 t39 t37) fun h19 =>
  cdK t38 (bV (ld ty159 h19 t39) fun t40 =>
  bVH (aBuildSlice Ty h19 168 1 [(0, t40)]) fun t41 h20 =>
  bVH (aAppend Ty h20 168 168 (.slice none 0 0) t41) fun t42 h21 =>
  bVH (aBuildSlice Ty h21 87 1 [(0, (.int .i64 0))]) fun t43 h22 =>
  bVH (aAppend Ty h22 87 87 (.slice none 0 0) t43) fun t44 h23 =>
  j4 a0 t42 t44 (.int .i64 0) h23)
  (j4 a0 (.slice none 0 0) (.slice none 0 0) (.int .i64 0) h19))
theorem e162 (F : FK) (a0 : Value) (h : H) : runK Ty F (lvT 162) (jvT 162) NN FU Go.Proofs.Tryz.f162 [a0] h = F162 F a0 h := by kernel_rfl
def F163 (F : FK) (a0 : Value) (a1 : Value) (h0 : H) : Rz :=
  alK 40 ty40 h0 fun t1 h1 =>
  bV (aBin Ty .eql 147 a0 (.pointer none)) fun t2 =>
  cdK t2 (bV (aBuild Ty 40 []) fun t3 =>
  bH (st ty40 h1 t1 t3) fun h2 =>
  bV (ld ty40 h2 t1) fun t4 =>
  some (.tuple #[t4, (.bool false)], h2))
  (bV (aNilCheck a0) fun t5 =>
  bV (fa 1 t5) fun t6 =>
  bV (ld ty205 h1 t6) fun t7 =>
  bV (aLookup Ty h1 205 t7 a1 true) fun t8 =>
  bV (aExtract t8 0) fun t9 =>
  bV (aExtract t8 1) fun t10 =>
  alK 40 ty40 h1 fun t11 h3 =>
  bH (st ty40 h3 t11 t9) fun h4 =>
  cdK t10 (bV (ld ty40 h4 t11) fun t12 =>
  bH (st ty40 h4 t1 t12) fun h5 =>
  bV (ld ty40 h5 t1) fun t13 =>
  some (.tuple #[t13, (.bool true)], h5))
  (bV (aNilCheck a0) fun t14 =>
  bV (fa 0 t14) fun t15 =>
  bV (ld ty139 h4 t15) fun t16 =>
  bVH (F 98 [t16, a1] h4) fun t17 h6 =>
  bV (aExtract t17 0) fun t18 =>
  bV (aExtract t17 1) fun t19 =>
  bH (st ty40 h6 t1 t18) fun h7 =>
  bV (ld ty40 h7 t1) fun t20 =>
  some (.tuple #[t20, t19], h7)))
theorem e163 (F : FK) (a0 : Value) (a1 : Value) (h : H) : runK Ty F (lvT 163) (jvT 163) NN FU Go.Proofs.Tryz.f163 [a0, a1] h = F163 F a0 a1 h := by kernel_rfl
def F164 (F : FK) (a0 : Value) (h0 : H) : Rz :=
  bV (aNilCheck a0) fun t1 =>
  bV (fa 0 t1) fun t2 =>
  bV (ld ty139 h0 t2) fun t3 =>
  bVH (F 97 [t3] h0) fun t4 h1 =>
  bVH (F 223 [t4] h1) fun t5 h2 =>
  bVH (F 224 [t5, (.int .i64 0)] h2) fun t6 h3 =>
  bV (aNilCheck a0) fun t7 =>
  bV (fa 2 t7) fun t8 =>
  bV (ld ty207 h3 t8) fun t9 =>
  bVH (aRangeStr Ty h3 207 t9) fun t10 h4 =>
  lpK (Value → Value → Value → H → Rz) (fun _ _ _ _ => none) (fun j1 => fun t11 t12 t13 h5 =>
  bVH (aNextMap h5 t13) fun t14 h6 =>
  bV (aExtract t14 0) fun t15 =>
  cdK t15 (bV (aEntry h6 t13) fun t16 =>
  bV (aExtract t16 0) fun t17 =>
  bVH (F 224 [t12, t17] h6) fun t18 h7 =>
  j1 t11 t12 t13 h7)
  (bV (aNilCheck t11) fun t19 =>
  bV (fa 0 t19) fun t20 =>
  bV (ld ty139 h6 t20) fun t21 =>
  bVH (F 97 [t21] h6) fun t22 h8 =>
  lpK (Value → Value → Value → Value → H → Rz) (fun _ _ _ _ _ => none) (fun j2 => fun t23 t24 t25 t26 h9 =>
  bV (aBin Ty .lss 3 t26 t25) fun t27 =>
  cdK t27 (jn (Value → Value → Value → Value → H → Rz) (fun t28 t29 t30 t31 h10 =>
  bV (aBin Ty .add 3 t31 (.int .i64 1)) fun t32 =>
  j2 t28 t29 t30 t32 h10) fun j3 =>
  bVH (F 163 [t23, t26] h9) fun t33 h11 =>
  bV (aExtract t33 0) fun t34 =>
  bV (aExtract t33 1) fun t35 =>
  alK 40 ty40 h11 fun t36 h12 =>
  bH (st ty40 h12 t36 t34) fun h13 =>
  bV (fa 0 t36) fun t37 =>
  bV (ld ty3 h13 t37) fun t38 =>
  bV (aBin Ty .eql 3 t38 (.int .i64 1)) fun t39 =>
  cdK t39 (bV (ld ty40 h13 t36) fun t40 =>
  bVH (F 225 [t23, t40, t24] h13) fun t41 h14 =>
  bVH (F 224 [t24, t26] h14) fun t42 h15 =>
  j3 t23 t24 t25 t26 h15)
  (jn (Value → Value → Value → Value → Value → Value → H → Rz) (fun t43 t44 t45 t46 t47 t48 h16 =>
  cdK t48 (bVH (F 224 [t44, t45] h16) fun t49 h17 =>
  j3 t43 t44 t46 t47 h17)
  (j3 t43 t44 t46 t47 h16)) fun j4 =>
  bV (aBin Ty .eql 3 t38 (.int .i64 2)) fun t50 =>
  cdK t50 (j4 t23 t24 t26 t25 t26 t50 h13)
  (bV (aBin Ty .eql 3 t38 (.int .i64 3)) fun t51 =>
  cdK t51 (j4 t23 t24 t26 t25 t26 t51 h13)
  (bV (aBin Ty .eql 3 t38 (.int .i64 6)) fun t52 =>
  j4 t23 t24 t26 t25 t26 t52 h13))))
  (some (t24, h9))) NN t11 t12 t22 (.int .i64 0) h8)) NN a0 t5 t10 h4
theorem e164 (F : FK) (a0 : Value) (h : H) : runK Ty F (lvT 164) (jvT 164) NN FU Go.Proofs.Tryz.f164 [a0] h = F164 F a0 h := by kernel_rfl
def F165 (F : FK) (a0 : Value) (h0 : H) : Rz :=
  bV (aBin Ty .eql 233 a0 (.pointer none)) fun t1 =>
  cdK t1 (some ((.int .i64 0), h0))
  (bV (aNilCheck a0) fun t2 =>
  bV (fa 0 t2) fun t3 =>
  bV (ld ty223 h0 t3) fun t4 =>
  bV (aLen Ty h0 223 t4) fun t5 =>
  lpK (Value → Value → Value → Value → H → Rz) (fun _ _ _ _ _ => none) (fun j1 => fun t6 t7 t8 t9 h1 =>
  bV (aBin Ty .lss 3 t9 t8) fun t10 =>
  cdK t10 (jn (Value → Value → Value → Value → H → Rz) (fun t11 t12 t13 t14 h2 =>
  bV (aBin Ty .add 3 t14 (.int .i64 1)) fun t15 =>
  j1 t11 t12 t13 t15 h2) fun j2 =>
  bV (aIndexAddr Ty 223 t7 t9) fun t16 =>
  bV (ld ty4 h1 t16) fun t17 =>
  bV (aUn .not t17) fun t18 =>
  cdK t18 (bV (aBin Ty .add 3 t6 (.int .i64 1)) fun t19 =>
  j2 t19 t7 t8 t9 h1)
  (j2 t6 t7 t8 t9 h1))
  (some (t6, h1))) NN (.int .i64 0) t4 t5 (.int .i64 0) h0)
theorem e165 (F : FK) (a0 : Value) (h : H) : runK Ty F (lvT 165) (jvT 165) NN FU Go.Proofs.Tryz.f165 [a0] h = F165 F a0 h := by kernel_rfl
def F166 (F : FK) (a0 : Value) (h0 : H) : Rz :=
  jn ((Value → Value → H → Rz) × Unit) (lpK ((Value → Value → H → Rz) × Unit) (fun _ _ _ => none, ()) (fun j1 => (fun t1 t2 h1 =>
  bVH (F 226 [t1, t2] h1) fun t3 h2 =>
  bV (aUn .not t3) fun t4 =>
  cdK t4 (some (.tuple #[(.int .i64 0), (.bool false)], h2))
  (bVH (F 227 [t1, t2] h2) fun t5 h3 =>
  cdK t5 (bV (aBin Ty .add 3 t2 (.int .i64 1)) fun t6 =>
  j1.1 t1 t6 h3)
  (some (.tuple #[t2, (.bool true)], h3))), ())) NN) fun j2 =>
  bVH (F 226 [a0, (.int .i64 0)] h0) fun t7 h4 =>
  bV (aUn .not t7) fun t8 =>
  cdK t8 (some (.tuple #[(.int .i64 0), (.bool false)], h4))
  (bVH (F 227 [a0, (.int .i64 0)] h4) fun t9 h5 =>
  cdK t9 (bV (aBin Ty .add 3 (.int .i64 0) (.int .i64 1)) fun t10 =>
  j2.1 a0 t10 h5)
  (some (.tuple #[(.int .i64 0), (.bool true)], h5)))
theorem e166 (F : FK) (a0 : Value) (h : H) : runK Ty F (lvT 166) (jvT 166) NN FU Go.Proofs.Tryz.f166 [a0] h = F166 F a0 h := by kernel_rfl
def F167 (F : FK) (a0 : Value) (a1 : Value) (h0 : H) : Rz :=
  bVH (F 228 [a0, a1] h0) fun t1 h1 =>
  bV (aBin Ty .eql 3 t1 (.int .i64 (-1))) fun t2 =>
  cdK t2 (some (a0, h1))
  (bV (aBin Ty .add 3 t1 (.int .i64 1)) fun t3 =>
  lpK (Value → Value → Value → Value → H → Rz) (fun _ _ _ _ _ => none) (fun j1 => fun t4 t5 t6 t7 h2 =>
  bV (aLen Ty h2 168 t4) fun t8 =>
  bV (aBin Ty .lss 3 t7 t8) fun t9 =>
  cdK t9 (jn (Value → Value → Value → Value → H → Rz) (fun t10 t11 t12 t13 h3 =>
  bV (aBin Ty .add 3 t13 (.int .i64 1)) fun t14 =>
  j1 t10 t11 t12 t14 h3) fun j2 =>
  bV (aIndexAddr Ty 168 t4 t7) fun t15 =>
  bV (ld ty159 h2 t15) fun t16 =>
  alK 159 ty159 h2 fun t17 h4 =>
  bH (st ty159 h4 t17 t16) fun h5 =>
  bV (ld ty159 h5 t17) fun t18 =>
  dyK F t5 [t18] h5 fun t19 h6 =>
  bV (aUn .not t19) fun t20 =>
  cdK t20 (bV (ld ty159 h6 t17) fun t21 =>
  bV (aIndexAddr Ty 168 t4 t6) fun t22 =>
  bH (st ty159 h6 t22 t21) fun h7 =>
  bV (aBin Ty .add 3 t6 (.int .i64 1)) fun t23 =>
  j2 t4 t5 t23 t7 h7)
  (j2 t4 t5 t6 t7 h6))
  (bV (aSlice Ty 168 t4 (some t6) none none) fun t24 =>
  bH (aClear Ty h2 168 t24) fun h8 =>
  bV (aSlice Ty 168 t4 none (some t6) none) fun t25 =>
  some (t25, h8))) NN a0 a1 t1 t3 h1)
theorem e167 (F : FK) (a0 : Value) (a1 : Value) (h : H) : runK Ty F (lvT 167) (jvT 167) NN FU Go.Proofs.Tryz.f167 [a0, a1] h = F167 F a0 a1 h := by kernel_rfl
def F168 (F : FK) (a0 : Value) (a1 : Value) (h0 : H) : Rz :=
  bxK 159 a0 h0 fun t1 h1 =>
  bV (fa 0 t1) fun t2 =>
  bV (ld ty56 h1 t2) fun t3 =>
  bV (ld ty56 h1 a1) fun t4 =>
  bV (aBin Ty .neq 56 t3 t4) fun t5 =>
  some (t5, h1)
theorem e168 (F : FK) (a0 : Value) (a1 : Value) (h : H) : runK Ty F (lvT 168) (jvT 168) NN FU Go.Proofs.Tryz.f168 [a0, a1] h = F168 F a0 a1 h := by kernel_rfl
def F169 (F : FK) (a0 : Value) (a1 : Value) (h0 : H) : Rz :=
  bV (aLen Ty h0 168 a0) fun t1 =>
  bVH (F 229 [a0, t1, a1] h0) fun t2 h1 =>
  some (.tuple #[], h1)
theorem e169 (F : FK) (a0 : Value) (a1 : Value) (h : H) : runK Ty F (lvT 169) (jvT 169) NN FU Go.Proofs.Tryz.f169 [a0, a1] h = F169 F a0 a1 h := by kernel_rfl
def F170 (F : FK) (a0 : Value) (a1 : Value) (h0 : H) : Rz :=
  bxK 159 a0 h0 fun t1 h1 =>
  bxK 159 a1 h1 fun t2 h2 =>
  bV (fa 3 t1) fun t3 =>
  bV (ld ty9 h2 t3) fun t4 =>
  bV (fa 3 t2) fun t5 =>
  bV (ld ty9 h2 t5) fun t6 =>
  bVH (F 171 [t4, t6] h2) fun t7 h3 =>
  some (t7, h3)
theorem e170 (F : FK) (a0 : Value) (a1 : Value) (h : H) : runK Ty F (lvT 170) (jvT 170) NN FU Go.Proofs.Tryz.f170 [a0, a1] h = F170 F a0 a1 h := by kernel_rfl
def F171 (F : FK) (a0 : Value) (a1 : Value) (h0 : H) : Rz :=
  bVH (F 230 [a0] h0) fun t1 h1 =>
  bVH (F 230 [a1] h1) fun t2 h2 =>
  cdK t1 (cdK t2 (some ((.int .i64 0), h2))
  (some ((.int .i64 (-1)), h2)))
  (cdK t2 (some ((.int .i64 1), h2))
  (bV (aBin Ty .lss 9 a0 a1) fun t3 =>
  cdK t3 (some ((.int .i64 (-1)), h2))
  (bV (aBin Ty .gtr 9 a0 a1) fun t4 =>
  cdK t4 (some ((.int .i64 1), h2))
  (some ((.int .i64 0), h2)))))
theorem e171 (F : FK) (a0 : Value) (a1 : Value) (h : H) : runK Ty F (lvT 171) (jvT 171) NN FU Go.Proofs.Tryz.f171 [a0, a1] h = F171 F a0 a1 h := by kernel_rfl
def F172 (F : FK) (a0 : Value) (a1 : Value) (h0 : H) : Rz :=
  bVH (F 163 [a0, a1] h0) fun t1 h1 =>
  bV (aExtract t1 0) fun t2 =>
  bV (aExtract t1 1) fun t3 =>
  alK 40 ty40 h1 fun t4 h2 =>
  bH (st ty40 h2 t4 t2) fun h3 =>
  bV (aUn .not t3) fun t5 =>
  guardV t5 false (fun k => bV (fa 0 t4) fun t7 =>
  k t7 h3) h3 fun t6 h4 =>
  guardV t5 false (fun k => bV (ld ty3 h4 t6) fun t9 =>
  k t9 h4) h4 fun t8 h5 =>
  guardV t5 false (fun k => bV (aBin Ty .neq 3 t8 (.int .i64 1)) fun t11 =>
  k t11 h5) h5 fun t10 h6 =>
  pickK t5 (.bool true) t10 fun t12 =>
  cdK t12 (some (.tuple #[(.pointer none), (.bool false)], h6))
  (bV (ld ty40 h6 t4) fun t13 =>
  bVH (F 72 [t13] h6) fun t14 h7 =>
  bV (aExtract t14 0) fun t15 =>
  bV (aExtract t14 1) fun t16 =>
  alK 75 ty75 h7 fun t17 h8 =>
  bH (st ty75 h8 t17 t15) fun h9 =>
  bV (aUn .not t16) fun t18 =>
  cdK t18 (some (.tuple #[(.pointer none), (.bool false)], h9))
  (bV (ld ty75 h9 t17) fun t19 =>
  bV (aBuild Ty 249 [(0, a0), (1, a1), (2, t19)]) fun t20 =>
  bxK 249 t20 h9 fun t21 h10 =>
  jn (Value → H → Rz) (fun t22 h11 =>
  jn (Value → H → Rz) (fun t23 h12 =>
  some (.tuple #[t23, (.bool true)], h12)) fun j2 =>
  bV (aNilCheck t22) fun t24 =>
  bV (fa 11 t24) fun t25 =>
  bV (ld ty87 h11 t25) fun t26 =>
  bV (aBin Ty .eql 87 t26 (.slice none 0 0)) fun t27 =>
  cdK t27 (bVH (aBuildSlice Ty h11 87 1 [(0, (.int .i64 (-1)))]) fun t28 h13 =>
  bVH (F 232 [t28, (.int .i64 16)] h13) fun t29 h14 =>
  bV (aNilCheck t22) fun t30 =>
  bV (fa 11 t30) fun t31 =>
  bH (st ty87 h14 t31 t29) fun h15 =>
  j2 t22 h15)
  (j2 t22 h11)) fun j1 =>
  bV (fa 7 t17) fun t32 =>
  bV (ld ty3 h10 t32) fun t33 =>
  bVH (F 163 [a0, t33] h10) fun t34 h16 =>
  bV (aExtract t34 0) fun t35 =>
  bV (aExtract t34 1) fun t36 =>
  alK 40 ty40 h16 fun t37 h17 =>
  bH (st ty40 h17 t37 t35) fun h18 =>
  guardV t36 true (fun k => bV (fa 7 t17) fun t39 =>
  k t39 h18) h18 fun t38 h19 =>
  guardV t36 true (fun k => bV (ld ty3 h19 t38) fun t41 =>
  k t41 h19) h19 fun t40 h20 =>
  guardV t36 true (fun k => bV (aBin Ty .neq 3 t40 (.int .i64 (-1))) fun t43 =>
  k t43 h20) h20 fun t42 h21 =>
  pickK t36 t42 (.bool false) fun t44 =>
  cdK t44 (bV (ld ty40 h21 t37) fun t45 =>
  bVH (F 231 [t45] h21) fun t46 h22 =>
  bV (aExtract t46 0) fun t47 =>
  bV (aExtract t46 1) fun t48 =>
  bV (aNilCheck t21) fun t49 =>
  bV (fa 11 t49) fun t50 =>
  bH (st ty87 h22 t50 t47) fun h23 =>
  j1 t21 h23)
  (j1 t21 h21)))
theorem e172 (F : FK) (a0 : Value) (a1 : Value) (h : H) : runK Ty F (lvT 172) (jvT 172) NN FU Go.Proofs.Tryz.f172 [a0, a1] h = F172 F a0 a1 h := by kernel_rfl
def F173 (F : FK) (a0 : Value) (a1 : Value) (h0 : H) : Rz :=
  jn ((Value → Value → H → Rz) × Unit) (lpK ((Value → Value → H → Rz) × Unit) (fun _ _ _ => none, ()) (fun j1 => (fun t1 t2 h1 =>
  bV (aReal t2) fun t3 =>
  bV (aImag t2) fun t4 =>
  bV (aBin Ty .lss 203 t3 t4) fun t5 =>
  cdK t5 (alK 246 ty246 h1 fun t6 h2 =>
  bVH (F 233 [t2] h2) fun t7 h3 =>
  bV (aExtract t7 0) fun t8 =>
  bV (aExtract t7 1) fun t9 =>
  bH (st ty246 h3 t6 t8) fun h4 =>
  bV (ld ty246 h4 t6) fun t10 =>
  bVH (aBuildSlice Ty h4 243 1 [(0, t10)]) fun t11 h5 =>
  bVH (aAppend Ty h5 243 243 t1 t11) fun t12 h6 =>
  j1.1 t12 t9 h6)
  (some (t1, h1)), ())) NN) fun j2 =>
  bV (aBin Ty .lss 3 a0 (.int .i64 0)) fun t13 =>
  guardV t13 false (fun k => k a1 h0) h0 fun t14 h7 =>
  guardV t13 false (fun k => bV (aBin Ty .lss 3 t14 (.int .i64 0)) fun t16 =>
  k t16 h7) h7 fun t15 h8 =>
  pickK t13 (.bool true) t15 fun t17 =>
  guardV t17 false (fun k => k a0 h8) h8 fun t18 h9 =>
  guardV t17 false (fun k => bV (aBin Ty .gtr 3 t18 (.int .i64 1120)) fun t20 =>
  k t20 h9) h9 fun t19 h10 =>
  pickK t17 (.bool true) t19 fun t21 =>
  guardV t21 false (fun k => k a1 h10) h10 fun t22 h11 =>
  guardV t21 false (fun k => k a0 h11) h11 fun t23 h12 =>
  guardV t21 false (fun k => bV (aBin Ty .sub 3 (.int .i64 1120) t23) fun t25 =>
  k t25 h12) h12 fun t24 h13 =>
  guardV t21 false (fun k => bV (aBin Ty .gtr 3 t22 t24) fun t27 =>
  k t27 h13) h13 fun t26 h14 =>
  pickK t21 (.bool true) t26 fun t28 =>
  cdK t28 (some ((.slice none 0 0), h14))
  (bV (aConv Ty 203 a0) fun t29 =>
  bV (aBin Ty .add 3 a0 a1) fun t30 =>
  bV (aConv Ty 203 t30) fun t31 =>
  bV (aComplex t29 t31) fun t32 =>
  bV (aReal t32) fun t33 =>
  bV (aImag t32) fun t34 =>
  bV (aBin Ty .lss 203 t33 t34) fun t35 =>
  cdK t35 (alK 246 ty246 h14 fun t36 h15 =>
  bVH (F 233 [t32] h15) fun t37 h16 =>
  bV (aExtract t37 0) fun t38 =>
  bV (aExtract t37 1) fun t39 =>
  bH (st ty246 h16 t36 t38) fun h17 =>
  bV (ld ty246 h17 t36) fun t40 =>
  bVH (aBuildSlice Ty h17 243 1 [(0, t40)]) fun t41 h18 =>
  bVH (aAppend Ty h18 243 243 (.slice none 0 0) t41) fun t42 h19 =>
  j2.1 t42 t39 h19)
  (some ((.slice none 0 0), h14)))
theorem e173 (F : FK) (a0 : Value) (a1 : Value) (h : H) : runK Ty F (lvT 173) (jvT 173) NN FU Go.Proofs.Tryz.f173 [a0, a1] h = F173 F a0 a1 h := by kernel_rfl
def F174 (F : FK) (a0 : Value) (a1 : Value) (h0 : H) : Rz :=
  bVH (F 179 [a0, a1] h0) fun t1 h1 =>
  bV (aNilCheck t1) fun t2 =>
  bV (ld ty3 h1 t2) fun t3 =>
  bV (aBin Ty .neq 3 t3 (.int .i64 (-1))) fun t4 =>
  cdK t4 (bV (aNilCheck t1) fun t5 =>
  bV (ld ty3 h1 t5) fun t6 =>
  some (.tuple #[t6, (.bool true)], h1))
  (jn (Value → Value → H → Rz) (fun t7 t8 h2 =>
  bV (aNilCheck t7) fun t9 =>
  bV (fa 0 t9) fun t10 =>
  bV (ld ty147 h2 t10) fun t11 =>
  bVH (F 86 [t11] h2) fun t12 h3 =>
  bV (aExtract t12 0) fun t13 =>
  bV (aExtract t12 1) fun t14 =>
  bV (aUn .not t14) fun t15 =>
  cdK t15 (some (.tuple #[(.int .i64 0), (.bool false)], h3))
  (bV (aNilCheck t8) fun t16 =>
  bH (st ty3 h3 t16 t13) fun h4 =>
  bV (aNilCheck t7) fun t17 =>
  bV (fa 0 t17) fun t18 =>
  bV (ld ty147 h4 t18) fun t19 =>
  bV (aBuild Ty 40 [(0, (.int .i64 4))]) fun t20 =>
  bVH (F 87 [t19, t13, t20] h4) fun t21 h5 =>
  some (.tuple #[t13, t21], h5))) fun j1 =>
  bVH (F 234 [a1] h1) fun t22 h6 =>
  bV (aExtract t22 0) fun t23 =>
  bV (aExtract t22 1) fun t24 =>
  bV (aExtract t22 2) fun t25 =>
  bV (aBin Ty .neq 3 t24 (.int .i64 (-1))) fun t26 =>
  guardV t26 true (fun k => k a0 h6) h6 fun t27 h7 =>
  guardV t26 true (fun k => bV (aNilCheck t27) fun t29 =>
  k t29 h7) h7 fun t28 h8 =>
  guardV t26 true (fun k => bV (fa 2 t28) fun t31 =>
  k t31 h8) h8 fun t30 h9 =>
  guardV t26 true (fun k => bV (fa 7 t30) fun t33 =>
  k t33 h9) h9 fun t32 h10 =>
  guardV t26 true (fun k => bV (ld ty3 h10 t32) fun t35 =>
  k t35 h10) h10 fun t34 h11 =>
  guardV t26 true (fun k => bV (aBin Ty .eql 3 t34 (.int .i64 (-1))) fun t37 =>
  k t37 h11) h11 fun t36 h12 =>
  pickK t26 t36 (.bool false) fun t38 =>
  cdK t38 (bV (aNilCheck a0) fun t39 =>
  bV (fa 0 t39) fun t40 =>
  bV (ld ty147 h12 t40) fun t41 =>
  bVH (F 86 [t41] h12) fun t42 h13 =>
  bV (aExtract t42 0) fun t43 =>
  bV (aExtract t42 1) fun t44 =>
  bV (aUn .not t44) fun t45 =>
  cdK t45 (some (.tuple #[(.int .i64 0), (.bool false)], h13))
  (bV (aNilCheck a0) fun t46 =>
  bV (fa 2 t46) fun t47 =>
  bV (fa 7 t47) fun t48 =>
  bH (st ty3 h13 t48 t43) fun h14 =>
  j1 a0 t1 h14))
  (j1 a0 t1 h12))
theorem e174 (F : FK) (a0 : Value) (a1 : Value) (h : H) : runK Ty F (lvT 174) (jvT 174) NN FU Go.Proofs.Tryz.f174 [a0, a1] h = F174 F a0 a1 h := by kernel_rfl
def F175 (F : FK) (a0 : Value) (h0 : H) : Rz :=
  jn (Value → H → Rz) (fun t1 h1 =>
  bV (aNilCheck t1) fun t2 =>
  bV (fa 2 t2) fun t3 =>
  bV (ld ty75 h1 t3) fun t4 =>
  bVH (F 148 [(.int .i64 1), t4] h1) fun t5 h2 =>
  bV (aExtract t5 0) fun t6 =>
  bV (aExtract t5 1) fun t7 =>
  alK 40 ty40 h2 fun t8 h3 =>
  bH (st ty40 h3 t8 t6) fun h4 =>
  lwK h4 (bV (aNilCheck t1) fun t9 =>
  bV (fa 0 t9) fun t10 =>
  psK h4 [t10] (bV (ld ty147 h4 t10) fun t11 =>
  bV (aNilCheck t1) fun t12 =>
  bV (fa 1 t12) fun t13 =>
  psK h4 [t13] (bV (ld ty3 h4 t13) fun t14 =>
  psK h4 [t8] (bV (ld ty40 h4 t8) fun t15 =>
  caD (F 87 [t11, t14, t15] (lw0 h4)) h4 [] fun t16 h5 h6 =>
  some (.tuple #[], h6)))))) fun j1 =>
  bV (aNilCheck a0) fun t17 =>
  bV (fa 2 t17) fun t18 =>
  bV (fa 7 t18) fun t19 =>
  bV (ld ty3 h0 t19) fun t20 =>
  bV (aBin Ty .neq 3 t20 (.int .i64 (-1))) fun t21 =>
  cdK t21 (bV (aNilCheck a0) fun t22 =>
  bV (fa 11 t22) fun t23 =>
  bV (ld ty87 h0 t23) fun t24 =>
  bVH (F 235 [t24] h0) fun t25 h7 =>
  bV (aExtract t25 0) fun t26 =>
  bV (aExtract t25 1) fun t27 =>
  alK 40 ty40 h7 fun t28 h8 =>
  bH (st ty40 h8 t28 t26) fun h9 =>
  lwK h9 (bV (aNilCheck a0) fun t29 =>
  bV (fa 0 t29) fun t30 =>
  psK h9 [t30] (bV (ld ty147 h9 t30) fun t31 =>
  bV (aNilCheck a0) fun t32 =>
  bV (fa 2 t32) fun t33 =>
  bV (fa 7 t33) fun t34 =>
  psK h9 [t34] (bV (ld ty3 h9 t34) fun t35 =>
  psK h9 [t28] (bV (ld ty40 h9 t28) fun t36 =>
  caD (F 87 [t31, t35, t36] (lw0 h9)) h9 [] fun t37 h10 h11 =>
  j1 a0 h11)))))
  (j1 a0 h0)
theorem e175 (F : FK) (a0 : Value) (h : H) : runK Ty F (lvT 175) (jvT 175) NN FU Go.Proofs.Tryz.f175 [a0] h = F175 F a0 h := by kernel_rfl
def F176 (F : FK) (a0 : Value) (a1 : Value) (a2 : Value) (h0 : H) : Rz :=
  bxK 56 a2 h0 fun t1 h1 =>
  alK 56 ty56 h1 fun t2 h2 =>
  bV (aNilCheck a0) fun t3 =>
  bV (fa 0 t3) fun t4 =>
  bV (ld ty139 h2 t4) fun t5 =>
  bVH (F 97 [t5] h2) fun t6 h3 =>
  lpK (Value → Value → Value → Value → Value → H → Rz) (fun _ _ _ _ _ _ => none) (fun j1 => fun t7 t8 t9 t10 t11 h4 =>
  bV (aBin Ty .lss 3 t11 t10) fun t12 =>
  cdK t12 (bVH (F 163 [t7, t11] h4) fun t13 h5 =>
  bV (aExtract t13 0) fun t14 =>
  bV (aExtract t13 1) fun t15 =>
  alK 40 ty40 h5 fun t16 h6 =>
  bH (st ty40 h6 t16 t14) fun h7 =>
  bV (ld ty40 h7 t16) fun t17 =>
  bVH (F 208 [t17] h7) fun t18 h8 =>
  bV (aExtract t18 0) fun t19 =>
  bV (aExtract t18 1) fun t20 =>
  alK 159 ty159 h8 fun t21 h9 =>
  bH (st ty159 h9 t21 t19) fun h10 =>
  guardV t20 true (fun k => bV (fa 4 t21) fun t23 =>
  k t23 h10) h10 fun t22 h11 =>
  guardV t20 true (fun k => bV (ld ty3 h11 t22) fun t25 =>
  k t25 h11) h11 fun t24 h12 =>
  guardV t20 true (fun k => bV (fa 1 t8) fun t27 =>
  k t27 h12) h12 fun t26 h13 =>
  guardV t20 true (fun k => bV (ld ty3 h13 t26) fun t29 =>
  k t29 h13) h13 fun t28 h14 =>
  guardV t20 true (fun k => bV (aBin Ty .eql 3 t24 t28) fun t31 =>
  k t31 h14) h14 fun t30 h15 =>
  pickK t20 t30 (.bool false) fun t32 =>
  guardV t32 true (fun k => bV (fa 5 t21) fun t34 =>
  k t34 h15) h15 fun t33 h16 =>
  guardV t32 true (fun k => bV (ld ty54 h16 t33) fun t36 =>
  k t36 h16) h16 fun t35 h17 =>
  guardV t32 true (fun k => bV (fa 2 t8) fun t38 =>
  k t38 h17) h17 fun t37 h18 =>
  guardV t32 true (fun k => bV (ld ty54 h18 t37) fun t40 =>
  k t40 h18) h18 fun t39 h19 =>
  guardV t32 true (fun k => bV (aBin Ty .eql 54 t35 t39) fun t42 =>
  k t42 h19) h19 fun t41 h20 =>
  pickK t32 t41 (.bool false) fun t43 =>
  cdK t43 (bV (fa 0 t21) fun t44 =>
  bV (ld ty56 h20 t44) fun t45 =>
  bH (st ty56 h20 t9 t45) fun h21 =>
  bV (ld ty56 h21 t9) fun t46 =>
  some (.tuple #[t46, (.bool true)], h21))
  (bV (aBin Ty .add 3 t11 (.int .i64 1)) fun t47 =>
  j1 t7 t8 t9 t10 t47 h20))
  (bV (aBuild Ty 56 []) fun t48 =>
  bH (st ty56 h4 t9 t48) fun h22 =>
  bV (ld ty56 h22 t9) fun t49 =>
  some (.tuple #[t49, (.bool false)], h22))) NN a1 t1 t2 t6 (.int .i64 0) h3
theorem e176 (F : FK) (a0 : Value) (a1 : Value) (a2 : Value) (h : H) : runK Ty F (lvT 176) (jvT 176) NN FU Go.Proofs.Tryz.f176 [a0, a1, a2] h = F176 F a0 a1 a2 h := by kernel_rfl
def F177 (F : FK) (a0 : Value) (h0 : H) : Rz :=
  bxK 159 a0 h0 fun t1 h1 =>
  bV (fa 0 t1) fun t2 =>
  bV (ld ty56 h1 t2) fun t3 =>
  bVH (F 80 [t3] h1) fun t4 h2 =>
  guardV t4 true (fun k => bV (fa 3 t1) fun t6 =>
  k t6 h2) h2 fun t5 h3 =>
  guardV t4 true (fun k => bV (ld ty9 h3 t5) fun t8 =>
  k t8 h3) h3 fun t7 h4 =>
  guardV t4 true (fun k => bVH (F 79 [t7] h4) fun t10 h6 =>
  k t10 h6) h4 fun t9 h5 =>
  pickK t4 t9 (.bool false) fun t11 =>
  guardV t11 true (fun k => bV (fa 4 t1) fun t13 =>
  k t13 h5) h5 fun t12 h7 =>
  guardV t11 true (fun k => bV (ld ty3 h7 t12) fun t15 =>
  k t15 h7) h7 fun t14 h8 =>
  guardV t11 true (fun k => bV (aBin Ty .geq 3 t14 (.int .i64 1)) fun t17 =>
  k t17 h8) h8 fun t16 h9 =>
  pickK t11 t16 (.bool false) fun t18 =>
  guardV t18 true (fun k => bV (fa 4 t1) fun t20 =>
  k t20 h9) h9 fun t19 h10 =>
  guardV t18 true (fun k => bV (ld ty3 h10 t19) fun t22 =>
  k t22 h10) h10 fun t21 h11 =>
  guardV t18 true (fun k => bV (aBin Ty .lss 3 t21 (.int .i64 200)) fun t24 =>
  k t24 h11) h11 fun t23 h12 =>
  pickK t18 t23 (.bool false) fun t25 =>
  guardV t25 true (fun k => bV (fa 5 t1) fun t27 =>
  k t27 h12) h12 fun t26 h13 =>
  guardV t25 true (fun k => bV (ld ty54 h13 t26) fun t29 =>
  k t29 h13) h13 fun t28 h14 =>
  guardV t25 true (fun k => bV (aBin Ty .geq 54 t28 (.int .u32 1)) fun t31 =>
  k t31 h14) h14 fun t30 h15 =>
  pickK t25 t30 (.bool false) fun t32 =>
  some (t32, h15)
theorem e177 (F : FK) (a0 : Value) (h : H) : runK Ty F (lvT 177) (jvT 177) NN FU Go.Proofs.Tryz.f177 [a0] h = F177 F a0 h := by kernel_rfl
def F178 (F : FK) (a0 : Value) (h0 : H) : Rz :=
  bxK 56 a0 h0 fun t1 h1 =>
  bV (ld ty56 h1 t1) fun t2 =>
  bVH (F 80 [t2] h1) fun t3 h2 =>
  bV (aUn .not t3) fun t4 =>
  cdK t4 (some ((.slice none 0 0), h2))
  (jn (Value → Value → H → Rz) (fun t5 t6 h3 =>
  bV (fa 1 t5) fun t7 =>
  bV (ld ty3 h3 t7) fun t8 =>
  bV (aBin Ty .shr 3 t8 (.int .u64 8)) fun t9 =>
  bV (aConv Ty 5 t9) fun t10 =>
  bV (fa 1 t5) fun t11 =>
  bV (ld ty3 h3 t11) fun t12 =>
  bV (aConv Ty 5 t12) fun t13 =>
  bV (fa 2 t5) fun t14 =>
  bV (ld ty54 h3 t14) fun t15 =>
  bV (aBin Ty .shr 54 t15 (.int .u64 24)) fun t16 =>
  bV (aConv Ty 5 t16) fun t17 =>
  bV (fa 2 t5) fun t18 =>
  bV (ld ty54 h3 t18) fun t19 =>
  bV (aBin Ty .shr 54 t19 (.int .u64 16)) fun t20 =>
  bV (aConv Ty 5 t20) fun t21 =>
  bV (fa 2 t5) fun t22 =>
  bV (ld ty54 h3 t22) fun t23 =>
  bV (aBin Ty .shr 54 t23 (.int .u64 8)) fun t24 =>
  bV (aConv Ty 5 t24) fun t25 =>
  bV (fa 2 t5) fun t26 =>
  bV (ld ty54 h3 t26) fun t27 =>
  bV (aConv Ty 5 t27) fun t28 =>
  bVH (aBuildSlice Ty h3 22 7 [(0, t6), (1, t10), (2, t13), (3, t17), (4, t21), (5, t25), (6, t28)]) fun t29 h4 =>
  some (t29, h4)) fun j1 =>
  bV (fa 0 t1) fun t30 =>
  bV (ld ty3 h2 t30) fun t31 =>
  bV (aBin Ty .geq 3 t31 (.int .i64 0)) fun t32 =>
  cdK t32 (bV (fa 0 t1) fun t33 =>
  bV (ld ty3 h2 t33) fun t34 =>
  bV (aConv Ty 5 t34) fun t35 =>
  j1 t1 t35 h2)
  (j1 t1 (.int .u8 255) h2))
theorem e178 (F : FK) (a0 : Value) (h : H) : runK Ty F (lvT 178) (jvT 178) NN FU Go.Proofs.Tryz.f178 [a0] h = F178 F a0 h := by kernel_rfl
def F179 (F : FK) (a0 : Value) (a1 : Value) (h0 : H) : Rz :=
  bVH (F 234 [a1] h0) fun t1 h1 =>
  bV (aExtract t1 0) fun t2 =>
  bV (aExtract t1 1) fun t3 =>
  bV (aExtract t1 2) fun t4 =>
  bV (aBin Ty .eql 3 t3 (.int .i64 (-1))) fun t5 =>
  cdK t5 (bV (aNilCheck a0) fun t6 =>
  bV (fa 2 t6) fun t7 =>
  bV (fa 3 t7) fun t8 =>
  bV (aIndexAddr Ty 73 t8 t2) fun t9 =>
  some (t9, h1))
  (bV (aNilCheck a0) fun t10 =>
  bV (fa 11 t10) fun t11 =>
  bV (ld ty87 h1 t11) fun t12 =>
  bV (aIndexAddr Ty 87 t12 t3) fun t13 =>
  some (t13, h1))
theorem e179 (F : FK) (a0 : Value) (a1 : Value) (h : H) : runK Ty F (lvT 179) (jvT 179) NN FU Go.Proofs.Tryz.f179 [a0, a1] h = F179 F a0 a1 h := by kernel_rfl
def F181 (F : FK) (a0 : Value) (a1 : Value) (h0 : H) : Rz :=
  bVH (F 65 [a0, a1, (.int .i64 0)] h0) fun t1 h1 =>
  bV (aBin Ty .eql 124 t1 (.pointer none)) fun t2 =>
  cdK t2 (some ((.bool false), h1))
  (jn (H → Rz) (fun h2 =>
  some ((.bool true), h2)) fun j1 =>
  bV (aNilCheck a0) fun t3 =>
  bV (fa 1 t3) fun t4 =>
  bV (ld ty3 h1 t4) fun t5 =>
  bV (aBin Ty .neq 3 t5 (.int .i64 0)) fun t6 =>
  cdK t6 (bV (aNilCheck t1) fun t7 =>
  bV (fa 0 t7) fun t8 =>
  bV (ld ty100 h1 t8) fun t9 =>
  bVH (F 112 [t9] h1) fun t10 h3 =>
  bV (aNilCheck t1) fun t11 =>
  bV (fa 1 t11) fun t12 =>
  bH (st ty100 h3 t12 t10) fun h4 =>
  bV (aNilCheck t1) fun t13 =>
  bV (fa 2 t13) fun t14 =>
  bH (st ty129 h4 t14 (.slice none 0 0)) fun h5 =>
  bV (aNilCheck t1) fun t15 =>
  bV (fa 3 t15) fun t16 =>
  bV (ld ty100 h5 t16) fun t17 =>
  bVH (aBuildSlice Ty h5 22 2 [(0, (.int .u8 255)), (1, (.int .u8 255))]) fun t18 h6 =>
  bVH (aBuildSlice Ty h6 100 1 [(0, t18)]) fun t19 h7 =>
  bVH (aAppend Ty h7 100 100 t17 t19) fun t20 h8 =>
  bV (aNilCheck t1) fun t21 =>
  bV (fa 3 t21) fun t22 =>
  bH (st ty100 h8 t22 t20) fun h9 =>
  j1 h9)
  (j1 h1))
theorem e181 (F : FK) (a0 : Value) (a1 : Value) (h : H) : runK Ty F (lvT 181) (jvT 181) NN FU Go.Proofs.Tryz.f181 [a0, a1] h = F181 F a0 a1 h := by kernel_rfl
def F182 (F : FK) (a0 : Value) (a1 : Value) (h0 : H) : Rz :=
  bVH (F 236 [a0, a1] h0) fun t1 h1 =>
  bV (aBin Ty .geq 3 t1 (.int .i64 0)) fun t2 =>
  some (t2, h1)
theorem e182 (F : FK) (a0 : Value) (a1 : Value) (h : H) : runK Ty F (lvT 182) (jvT 182) NN FU Go.Proofs.Tryz.f182 [a0, a1] h = F182 F a0 a1 h := by kernel_rfl
def F183 (F : FK) (a0 : Value) (h0 : H) : Rz :=
  bV (aBin Ty .neq 3 a0 (.int .i64 (-1))) fun t1 =>
  some (t1, h0)
theorem e183 (F : FK) (a0 : Value) (h : H) : runK Ty F (lvT 183) (jvT 183) NN FU Go.Proofs.Tryz.f183 [a0] h = F183 F a0 h := by kernel_rfl
def F184 (F : FK) (a0 : Value) (a1 : Value) (a2 : Value) (h0 : H) : Rz :=
  bVH (F 65 [a0, a1, a2] h0) fun t1 h1 =>
  bV (aBin Ty .eql 124 t1 (.pointer none)) fun t2 =>
  cdK t2 (some (.tuple #[(.slice none 0 0), (.bool false)], h1))
  (bV (aNilCheck t1) fun t3 =>
  bV (fa 0 t3) fun t4 =>
  bV (ld ty100 h1 t4) fun t5 =>
  bV (aIndexAddr Ty 100 t5 a2) fun t6 =>
  bV (ld ty22 h1 t6) fun t7 =>
  bVH (F 66 [t7] h1) fun t8 h2 =>
  some (.tuple #[t8, (.bool true)], h2))
theorem e184 (F : FK) (a0 : Value) (a1 : Value) (a2 : Value) (h : H) : runK Ty F (lvT 184) (jvT 184) NN FU Go.Proofs.Tryz.f184 [a0, a1, a2] h = F184 F a0 a1 a2 h := by kernel_rfl
def F185 (F : FK) (a0 : Value) (a1 : Value) (a2 : Value) (h0 : H) : Rz :=
  bxK 40 a2 h0 fun t1 h1 =>
  lwK h1 (bV (aNilCheck a0) fun t2 =>
  bV (fa 7 t2) fun t3 =>
  psK h1 [t3] (bV (ld ty5 h1 t3) fun t4 =>
  psK h1 [t1] (bV (ld ty40 h1 t1) fun t5 =>
  caD (F 237 [t4, a1, t5] (lw0 h1)) h1 [] fun t6 h2 h3 =>
  bV (aExtract t6 0) fun t7 =>
  bV (aExtract t6 1) fun t8 =>
  lwK h3 (bV (aNilCheck a0) fun t9 =>
  bV (fa 0 t9) fun t10 =>
  psK h3 [t10] (bV (ld ty24 h3 t10) fun t11 =>
  bV (aNilCheck a0) fun t12 =>
  bV (fa 1 t12) fun t13 =>
  psK h3 [t13] (bV (ld ty3 h3 t13) fun t14 =>
  bV (aNilCheck a0) fun t15 =>
  bV (fa 2 t15) fun t16 =>
  psK h3 [t16] (bV (ld ty28 h3 t16) fun t17 =>
  caD (F 20 [t17, a1] (lw0 h3)) h3 [t10, t13] fun t18 h4 h5 =>
  caD (F 19 [t11, t14, t18, t7] (lw0 h5)) h5 [] fun t19 h6 h7 =>
  some (.tuple #[], h7))))))))
theorem e185 (F : FK) (a0 : Value) (a1 : Value) (a2 : Value) (h : H) : runK Ty F (lvT 185) (jvT 185) NN FU Go.Proofs.Tryz.f185 [a0, a1, a2] h = F185 F a0 a1 a2 h := by kernel_rfl
def F186 (F : FK) (a0 : Value) (h0 : H) : Rz :=
  lwK h0 (bV (aNilCheck a0) fun t1 =>
  bV (fa 0 t1) fun t2 =>
  psK h0 [t2] (bV (ld ty24 h0 t2) fun t3 =>
  bV (aNilCheck a0) fun t4 =>
  bV (fa 1 t4) fun t5 =>
  psK h0 [t5] (bV (ld ty3 h0 t5) fun t6 =>
  bV (aNilCheck a0) fun t7 =>
  bV (fa 8 t7) fun t8 =>
  psK h0 [t8] (bV (ld ty54 h0 t8) fun t9 =>
  caD (F 202 [t9] (lw0 h0)) h0 [t2, t5] fun t10 h1 h2 =>
  bV (aNilCheck a0) fun t11 =>
  bV (fa 7 t11) fun t12 =>
  psK h2 [t12] (ckK [t12] [(h0, h1)] [(h0, h1)] [] (bV (ld ty5 h2 t12) fun t13 =>
  bV (aNilCheck a0) fun t14 =>
  bV (fa 8 t14) fun t15 =>
  psK h2 [t15] (ckK [t15] [(h0, h1)] [(h0, h1)] [] (bV (ld ty54 h2 t15) fun t16 =>
  caD (F 238 [t13, t16] (lw0 h2)) h2 [t2, t5] fun t17 h3 h4 =>
  caD (F 19 [t3, t6, t10, t17] (lw0 h4)) h4 [] fun t18 h5 h6 =>
  lwK h6 (bV (aNilCheck a0) fun t19 =>
  bV (fa 0 t19) fun t20 =>
  psK h6 [t20] (bV (ld ty24 h6 t20) fun t21 =>
  bV (aNilCheck a0) fun t22 =>
  bV (fa 1 t22) fun t23 =>
  psK h6 [t23] (bV (ld ty3 h6 t23) fun t24 =>
  caD (F 181 [t21, t24] (lw0 h6)) h6 [] fun t25 h7 h8 =>
  some (.tuple #[], h8))))))))))))
theorem e186 (F : FK) (a0 : Value) (h : H) : runK Ty F (lvT 186) (jvT 186) NN FU Go.Proofs.Tryz.f186 [a0] h = F186 F a0 h := by kernel_rfl
def F200 (F : FK) (a0 : Value) (h0 : H) : Rz :=
  bxK 26 a0 h0 fun t1 h1 =>
  bV (ld ty26 h1 t1) fun t2 =>
  bVH (F 240 [t2] h1) fun t3 h2 =>
  bV (aUn .not t3) fun t4 =>
  cdK t4 (some (.tuple #[(.int .u8 0), (.bool false)], h2))
  (bV (fa 0 t1) fun t5 =>
  bV (ld ty3 h2 t5) fun t6 =>
  bV (aBin Ty .mul 3 (.int .i64 16) t6) fun t7 =>
  bV (fa 1 t1) fun t8 =>
  bV (ld ty3 h2 t8) fun t9 =>
  bV (aBin Ty .add 3 t7 t9) fun t10 =>
  bV (aConv Ty 5 t10) fun t11 =>
  some (.tuple #[t11, (.bool true)], h2))
theorem e200 (F : FK) (a0 : Value) (h : H) : runK Ty F (lvT 200) (jvT 200) NN FU Go.Proofs.Tryz.f200 [a0] h = F200 F a0 h := by kernel_rfl
def F201 (F : FK) (a0 : Value) (a1 : Value) (h0 : H) : Rz :=
  bV (aLen Ty h0 22 a1) fun t1 =>
  bV (aBin Ty .neq 3 t1 (.int .i64 64)) fun t2 =>
  cdK t2 (some (.tuple #[(.int .u32 0), (.bool false)], h0))
  (bV (aSlice Ty 22 a1 (some (.int .i64 3)) (some (.int .i64 7)) none) fun t3 =>
  bVH (F 241 [t3] h0) fun t4 h1 =>
  bV (aBin Ty .eql 54 t4 (.int .u32 4294967295)) fun t5 =>
  guardV t5 false (fun k => k a0 h1) h1 fun t6 h2 =>
  guardV t5 false (fun k => k t4 h2) h2 fun t7 h3 =>
  guardV t5 false (fun k => bVH (F 238 [t6, t7] h3) fun t9 h5 =>
  k t9 h5) h3 fun t8 h4 =>
  guardV t5 false (fun k => k a1 h4) h4 fun t10 h6 =>
  guardV t5 false (fun k => bVH (F 242 [t8, t10] h6) fun t12 h8 =>
  k t12 h8) h6 fun t11 h7 =>
  guardV t5 false (fun k => bV (aUn .not t11) fun t14 =>
  k t14 h7) h7 fun t13 h9 =>
  pickK t5 (.bool true) t13 fun t15 =>
  cdK t15 (some (.tuple #[(.int .u32 0), (.bool false)], h9))
  (some (.tuple #[t4, (.bool true)], h9)))
theorem e201 (F : FK) (a0 : Value) (a1 : Value) (h : H) : runK Ty F (lvT 201) (jvT 201) NN FU Go.Proofs.Tryz.f201 [a0, a1] h = F201 F a0 a1 h := by kernel_rfl
def F202 (F : FK) (a0 : Value) (h0 : H) : Rz :=
  bV (aBin Ty .rem 54 a0 (.int .u32 2)) fun t1 =>
  bV (aConv Ty 3 t1) fun t2 =>
  some (t2, h0)
theorem e202 (F : FK) (a0 : Value) (h : H) : runK Ty F (lvT 202) (jvT 202) NN FU Go.Proofs.Tryz.f202 [a0] h = F202 F a0 h := by kernel_rfl
def F203 (F : FK) (a0 : Value) (a1 : Value) (h0 : H) : Rz :=
  bxK 28 a0 h0 fun t1 h1 =>
  bV (fa 3 t1) fun t2 =>
  bV (ld ty3 h1 t2) fun t3 =>
  bVH (F 68 [(.int .i64 2), t3] h1) fun t4 h2 =>
  bVH (F 69 [t4, a1] h2) fun t5 h3 =>
  some (t5, h3)
theorem e203 (F : FK) (a0 : Value) (a1 : Value) (h : H) : runK Ty F (lvT 203) (jvT 203) NN FU Go.Proofs.Tryz.f203 [a0, a1] h = F203 F a0 a1 h := by kernel_rfl
def F204 (F : FK) (a0 : Value) (a1 : Value) (a2 : Value) (a3 : Value) (h0 : H) : Rz :=
  jn ((Value → Value → Value → Value → Value → Value → Value → H → Rz) × (Value → Value → Value → Value → H → Rz) × (H → Rz) × Unit) (lpK ((Value → Value → Value → Value → Value → Value → Value → H → Rz) × (Value → Value → Value → Value → H → Rz) × (H → Rz) × Unit) (fun _ _ _ _ _ _ _ _ => none, fun _ _ _ _ _ => none, fun _ => none, ()) (fun j1 => (fun t1 t2 t3 t4 t5 t6 t7 h1 =>
  bV (aLen Ty h1 218 t5) fun t8 =>
  bV (aBin Ty .lss 3 t8 t7) fun t9 =>
  cdK t9 (alK 278 ty278 h1 fun t10 h2 =>
  bV (aIndexAddr Ty 100 t4 (.int .i64 0)) fun t11 =>
  bV (ld ty22 h2 t11) fun t12 =>
  bV (aLen Ty h2 218 t5) fun t13 =>
  bV (aBin Ty .mul 3 (.int .i64 3) t13) fun t14 =>
  bV (aBin Ty .add 3 (.int .i64 11) t14) fun t15 =>
  bV (aSlice Ty 22 t12 (some t15) none none) fun t16 =>
  lwK h2 (bV (aSlice Ty 22 t16 none (some (.int .i64 2)) none) fun t17 =>
  caD (F 241 [t17] (lw0 h2)) h2 [] fun t18 h3 h4 =>
  bV (aConv Ty 3 t18) fun t19 =>
  bV (aIndexAddr Ty 22 t16 (.int .i64 2)) fun t20 =>
  psK h4 [t20] (ckK [t20] [(h2, h3)] [(h2, h3)] [] (bV (ld ty5 h4 t20) fun t21 =>
  bV (aConv Ty 3 t21) fun t22 =>
  bV (fa 0 t10) fun t23 =>
  psK h4 [t23] (bH (st ty3 h4 t23 t19) fun h5 =>
  bV (fa 1 t10) fun t24 =>
  bV (fa 0 t24) fun t25 =>
  psK h5 [t25] (bH (st ty3 h5 t25 t22) fun h6 =>
  lwK h6 (bV (fa 1 t10) fun t26 =>
  bV (fa 1 t26) fun t27 =>
  bV (aSlice Ty 38 t27 none none none) fun t28 =>
  bV (aLen Ty h6 218 t5) fun t29 =>
  bV (aBin Ty .add 3 t29 (.int .i64 1)) fun t30 =>
  bV (aIndexAddr Ty 100 t4 t30) fun t31 =>
  psK h6 [t31] (bV (ld ty22 h6 t31) fun t32 =>
  psK h6 [t28, t32] (bVH (cpK Ty h6 22 t28 t32) fun t33 h7 =>
  bV (ld ty278 h7 t10) fun t34 =>
  bVH (aBuildSlice Ty h7 218 1 [(0, t34)]) fun t35 h8 =>
  bVH (aAppend Ty h8 218 218 t5 t35) fun t36 h9 =>
  j1.1 t1 t2 t3 t4 t36 t6 t7 h9)))))))))
  (bVH (F 215 [t1, t2, t3, t5] h1) fun t37 h10 =>
  bV (aExtract t37 0) fun t38 =>
  bV (aExtract t37 1) fun t39 =>
  bV (aUn .not t39) fun t40 =>
  cdK t40 (j1.2.2.1 h10)
  (bV (aLen Ty h10 100 t38) fun t41 =>
  bV (aBin Ty .lss 3 t6 t41) fun t42 =>
  cdK t42 (lwK h10 (bV (aIndexAddr Ty 100 t38 t6) fun t43 =>
  psK h10 [t43] (bV (ld ty22 h10 t43) fun t44 =>
  bV (aIndexAddr Ty 100 t4 t6) fun t45 =>
  psK h10 [t45] (bV (ld ty22 h10 t45) fun t46 =>
  caD (F 242 [t44, t46] (lw0 h10)) h10 [] fun t47 h11 h12 =>
  bV (aUn .not t47) fun t48 =>
  cdK t48 (j1.2.2.1 h12)
  (bV (aBin Ty .add 3 t6 (.int .i64 1)) fun t49 =>
  j1.2.1 t4 t5 t49 t38 h12)))))
  (some (.tuple #[t5, t6, (.bool true)], h10)))), fun t50 t51 t52 t53 h13 =>
  bV (aLen Ty h13 100 t53) fun t54 =>
  bV (aBin Ty .lss 3 t52 t54) fun t55 =>
  cdK t55 (lwK h13 (bV (aIndexAddr Ty 100 t53 t52) fun t56 =>
  psK h13 [t56] (bV (ld ty22 h13 t56) fun t57 =>
  bV (aIndexAddr Ty 100 t50 t52) fun t58 =>
  psK h13 [t58] (bV (ld ty22 h13 t58) fun t59 =>
  caD (F 242 [t57, t59] (lw0 h13)) h13 [] fun t60 h14 h15 =>
  bV (aUn .not t60) fun t61 =>
  cdK t61 (j1.2.2.1 h15)
  (bV (aBin Ty .add 3 t52 (.int .i64 1)) fun t62 =>
  j1.2.1 t50 t51 t62 t53 h15)))))
  (some (.tuple #[t51, t52, (.bool true)], h13)), fun h16 =>
  some (.tuple #[(.slice none 0 0), (.int .i64 0), (.bool false)], h16), ())) NN) fun j2 =>
  bV (aLen Ty h0 100 a3) fun t63 =>
  bV (aBin Ty .eql 3 t63 (.int .i64 0)) fun t64 =>
  guardV t64 false (fun k => k a3 h0) h0 fun t65 h17 =>
  guardV t64 false (fun k => bV (aIndexAddr Ty 100 t65 (.int .i64 0)) fun t67 =>
  k t67 h17) h17 fun t66 h18 =>
  guardV t64 false (fun k => bV (ld ty22 h18 t66) fun t69 =>
  k t69 h18) h18 fun t68 h19 =>
  guardV t64 false (fun k => bV (aLen Ty h19 22 t68) fun t71 =>
  k t71 h19) h19 fun t70 h20 =>
  guardV t64 false (fun k => bV (aBin Ty .neq 3 t70 (.int .i64 64)) fun t73 =>
  k t73 h20) h20 fun t72 h21 =>
  pickK t64 (.bool true) t72 fun t74 =>
  cdK t74 (j2.2.2.1 h21)
  (bV (aIndexAddr Ty 100 a3 (.int .i64 0)) fun t75 =>
  bV (ld ty22 h21 t75) fun t76 =>
  bV (aIndexAddr Ty 22 t76 (.int .i64 10)) fun t77 =>
  bV (ld ty5 h21 t77) fun t78 =>
  bV (aConv Ty 3 t78) fun t79 =>
  bV (aBin Ty .gtr 3 t79 (.int .i64 12)) fun t80 =>
  guardV t80 false (fun k => k a3 h21) h21 fun t81 h22 =>
  guardV t80 false (fun k => bV (aLen Ty h22 100 t81) fun t83 =>
  k t83 h22) h22 fun t82 h23 =>
  guardV t80 false (fun k => k t79 h23) h23 fun t84 h24 =>
  guardV t80 false (fun k => bV (aBin Ty .add 3 t84 (.int .i64 1)) fun t86 =>
  k t86 h24) h24 fun t85 h25 =>
  guardV t80 false (fun k => bV (aBin Ty .lss 3 t82 t85) fun t88 =>
  k t88 h25) h25 fun t87 h26 =>
  pickK t80 (.bool true) t87 fun t89 =>
  cdK t89 (j2.2.2.1 h26)
  (bV (aLen Ty h26 218 (.slice none 0 0)) fun t90 =>
  bV (aBin Ty .lss 3 t90 t79) fun t91 =>
  cdK t91 (alK 278 ty278 h26 fun t92 h27 =>
  bV (aIndexAddr Ty 100 a3 (.int .i64 0)) fun t93 =>
  bV (ld ty22 h27 t93) fun t94 =>
  bV (aLen Ty h27 218 (.slice none 0 0)) fun t95 =>
  bV (aBin Ty .mul 3 (.int .i64 3) t95) fun t96 =>
  bV (aBin Ty .add 3 (.int .i64 11) t96) fun t97 =>
  bV (aSlice Ty 22 t94 (some t97) none none) fun t98 =>
  lwK h27 (bV (aSlice Ty 22 t98 none (some (.int .i64 2)) none) fun t99 =>
  caD (F 241 [t99] (lw0 h27)) h27 [] fun t100 h28 h29 =>
  bV (aConv Ty 3 t100) fun t101 =>
  bV (aIndexAddr Ty 22 t98 (.int .i64 2)) fun t102 =>
  psK h29 [t102] (ckK [t102] [(h27, h28)] [(h27, h28)] [] (bV (ld ty5 h29 t102) fun t103 =>
  bV (aConv Ty 3 t103) fun t104 =>
  bV (fa 0 t92) fun t105 =>
  psK h29 [t105] (bH (st ty3 h29 t105 t101) fun h30 =>
  bV (fa 1 t92) fun t106 =>
  bV (fa 0 t106) fun t107 =>
  psK h30 [t107] (bH (st ty3 h30 t107 t104) fun h31 =>
  lwK h31 (bV (fa 1 t92) fun t108 =>
  bV (fa 1 t108) fun t109 =>
  bV (aSlice Ty 38 t109 none none none) fun t110 =>
  bV (aLen Ty h31 218 (.slice none 0 0)) fun t111 =>
  bV (aBin Ty .add 3 t111 (.int .i64 1)) fun t112 =>
  bV (aIndexAddr Ty 100 a3 t112) fun t113 =>
  psK h31 [t113] (bV (ld ty22 h31 t113) fun t114 =>
  psK h31 [t110, t114] (bVH (cpK Ty h31 22 t110 t114) fun t115 h32 =>
  bV (ld ty278 h32 t92) fun t116 =>
  bVH (aBuildSlice Ty h32 218 1 [(0, t116)]) fun t117 h33 =>
  bVH (aAppend Ty h33 218 218 (.slice none 0 0) t117) fun t118 h34 =>
  j2.1 a0 a1 a2 a3 t118 (.int .i64 0) t79 h34)))))))))
  (bVH (F 215 [a0, a1, a2, (.slice none 0 0)] h26) fun t119 h35 =>
  bV (aExtract t119 0) fun t120 =>
  bV (aExtract t119 1) fun t121 =>
  bV (aUn .not t121) fun t122 =>
  cdK t122 (j2.2.2.1 h35)
  (bV (aLen Ty h35 100 t120) fun t123 =>
  bV (aBin Ty .lss 3 (.int .i64 0) t123) fun t124 =>
  cdK t124 (lwK h35 (bV (aIndexAddr Ty 100 t120 (.int .i64 0)) fun t125 =>
  psK h35 [t125] (bV (ld ty22 h35 t125) fun t126 =>
  bV (aIndexAddr Ty 100 a3 (.int .i64 0)) fun t127 =>
  psK h35 [t127] (bV (ld ty22 h35 t127) fun t128 =>
  caD (F 242 [t126, t128] (lw0 h35)) h35 [] fun t129 h36 h37 =>
  bV (aUn .not t129) fun t130 =>
  cdK t130 (j2.2.2.1 h37)
  (bV (aBin Ty .add 3 (.int .i64 0) (.int .i64 1)) fun t131 =>
  j2.2.1 a3 (.slice none 0 0) t131 t120 h37)))))
  (some (.tuple #[(.slice none 0 0), (.int .i64 0), (.bool true)], h35))))))
theorem e204 (F : FK) (a0 : Value) (a1 : Value) (a2 : Value) (a3 : Value) (h : H) : runK Ty F (lvT 204) (jvT 204) NN FU Go.Proofs.Tryz.f204 [a0, a1, a2, a3] h = F204 F a0 a1 a2 a3 h := by kernel_rfl
def F205 (F : FK) (a0 : Value) (a1 : Value) (a2 : Value) (h0 : H) : Rz :=
  alK 40 ty40 h0 fun t1 h1 =>
  jn ((Value → H → Rz) × Unit) (lpK ((Value → H → Rz) × Unit) (fun _ _ => none, ()) (fun j1 => (fun t2 h2 =>
  bV (aBuild Ty 40 []) fun t3 =>
  bH (st ty40 h2 t2 t3) fun h3 =>
  bV (ld ty40 h3 t2) fun t4 =>
  some (.tuple #[t4, (.bool false)], h3), ())) NN) fun j2 =>
  alK 40 ty40 h1 fun t5 h4 =>
  bV (aLen Ty h4 22 a2) fun t6 =>
  bV (aBin Ty .neq 3 t6 (.int .i64 64)) fun t7 =>
  cdK t7 (j2.1 t1 h4)
  (bV (aIndexAddr Ty 22 a2 (.int .i64 0)) fun t8 =>
  bV (ld ty5 h4 t8) fun t9 =>
  bV (aConv Ty 3 t9) fun t10 =>
  bV (fa 0 t5) fun t11 =>
  bH (st ty3 h4 t11 t10) fun h5 =>
  lwK h5 (bV (fa 1 t5) fun t12 =>
  bV (aSlice Ty 38 t12 none none none) fun t13 =>
  bV (aSlice Ty 22 a2 (some (.int .i64 4)) (some (.int .i64 60)) none) fun t14 =>
  psK h5 [t13, t14] (bVH (cpK Ty h5 22 t13 t14) fun t15 h6 =>
  bV (ld ty40 h6 t5) fun t16 =>
  bVH (F 237 [a0, a1, t16] h6) fun t17 h7 =>
  bV (aExtract t17 0) fun t18 =>
  bV (aExtract t17 1) fun t19 =>
  guardV t19 true (fun k => k t18 h7) h7 fun t20 h8 =>
  guardV t19 true (fun k => k a2 h8) h8 fun t21 h9 =>
  guardV t19 true (fun k => bVH (F 242 [t20, t21] h9) fun t23 h11 =>
  k t23 h11) h9 fun t22 h10 =>
  pickK t19 t22 (.bool false) fun t24 =>
  cdK t24 (bV (ld ty40 h10 t5) fun t25 =>
  bH (st ty40 h10 t1 t25) fun h12 =>
  bV (ld ty40 h12 t1) fun t26 =>
  some (.tuple #[t26, (.bool true)], h12))
  (bV (aBuild Ty 40 []) fun t27 =>
  bH (st ty40 h10 t1 t27) fun h13 =>
  bV (ld ty40 h13 t1) fun t28 =>
  some (.tuple #[t28, (.bool false)], h13)))))
theorem e205 (F : FK) (a0 : Value) (a1 : Value) (a2 : Value) (h : H) : runK Ty F (lvT 205) (jvT 205) NN FU Go.Proofs.Tryz.f205 [a0, a1, a2] h = F205 F a0 a1 a2 h := by kernel_rfl
def F207 (F : FK) (a0 : Value) (h0 : H) : Rz :=
  bxK 207 a0 h0 fun t1 h1 =>
  some ((.func (.func 245) #[] #[t1]), h1)
theorem e207 (F : FK) (a0 : Value) (h : H) : runK Ty F (lvT 207) (jvT 207) NN FU Go.Proofs.Tryz.f207 [a0] h = F207 F a0 h := by kernel_rfl
def F208 (F : FK) (a0 : Value) (h0 : H) : Rz :=
  bxK 40 a0 h0 fun t1 h1 =>
  alK 159 ty159 h1 fun t2 h2 =>
  jn ((Value → H → Rz) × Unit) (lpK ((Value → H → Rz) × Unit) (fun _ _ => none, ()) (fun j1 => (fun t3 h3 =>
  bV (aBuild Ty 159 []) fun t4 =>
  bH (st ty159 h3 t3 t4) fun h4 =>
  bV (ld ty159 h4 t3) fun t5 =>
  some (.tuple #[t5, (.bool false)], h4), ())) NN) fun j2 =>
  alK 159 ty159 h2 fun t6 h5 =>
  alK 40 ty40 h5 fun t7 h6 =>
  bV (fa 1 t1) fun t8 =>
  bV (aSlice Ty 38 t8 (some (.int .i64 7)) none none) fun t9 =>
  bV (fa 1 t1) fun t10 =>
  bV (aSlice Ty 38 t10 none (some (.int .i64 7)) none) fun t11 =>
  bVH (F 246 [t11] h6) fun t12 h7 =>
  bV (aExtract t12 0) fun t13 =>
  bV (aExtract t12 1) fun t14 =>
  alK 56 ty56 h7 fun t15 h8 =>
  bH (st ty56 h8 t15 t13) fun h9 =>
  bV (aUn .not t14) fun t16 =>
  cdK t16 (j2.1 t2 h9)
  (lwK h9 (psK h9 [t15] (bV (ld ty56 h9 t15) fun t17 =>
  bV (aIndexAddr Ty 22 t9 (.int .i64 0)) fun t18 =>
  psK h9 [t18] (bV (ld ty5 h9 t18) fun t19 =>
  bV (aConv Ty 3 t19) fun t20 =>
  bV (aBin Ty .shl 3 t20 (.int .u64 8)) fun t21 =>
  bV (aIndexAddr Ty 22 t9 (.int .i64 1)) fun t22 =>
  psK h9 [t22] (bV (ld ty5 h9 t22) fun t23 =>
  bV (aConv Ty 3 t23) fun t24 =>
  bV (aBin Ty .or 3 t21 t24) fun t25 =>
  bV (aIndexAddr Ty 22 t9 (.int .i64 2)) fun t26 =>
  psK h9 [t26] (bV (ld ty5 h9 t26) fun t27 =>
  bV (aConv Ty 54 t27) fun t28 =>
  bV (aBin Ty .shl 54 t28 (.int .u64 24)) fun t29 =>
  bV (aIndexAddr Ty 22 t9 (.int .i64 3)) fun t30 =>
  psK h9 [t30] (bV (ld ty5 h9 t30) fun t31 =>
  bV (aConv Ty 54 t31) fun t32 =>
  bV (aBin Ty .shl 54 t32 (.int .u64 16)) fun t33 =>
  bV (aBin Ty .or 54 t29 t33) fun t34 =>
  bV (aIndexAddr Ty 22 t9 (.int .i64 4)) fun t35 =>
  psK h9 [t35] (bV (ld ty5 h9 t35) fun t36 =>
  bV (aConv Ty 54 t36) fun t37 =>
  bV (aBin Ty .shl 54 t37 (.int .u64 8)) fun t38 =>
  bV (aBin Ty .or 54 t34 t38) fun t39 =>
  bV (aIndexAddr Ty 22 t9 (.int .i64 5)) fun t40 =>
  psK h9 [t40] (bV (ld ty5 h9 t40) fun t41 =>
  bV (aConv Ty 54 t41) fun t42 =>
  bV (aBin Ty .or 54 t39 t42) fun t43 =>
  bV (aBuild Ty 159 [(0, t17), (2, t25), (3, t43)]) fun t44 =>
  psK h9 [t6] (bH (st ty159 h9 t6 t44) fun h10 =>
  bV (aIndexAddr Ty 22 t9 (.int .i64 6)) fun t45 =>
  bV (ld ty5 h10 t45) fun t46 =>
  bV (aConv Ty 3 t46) fun t47 =>
  bV (aBin Ty .add 3 (.int .i64 7) t47) fun t48 =>
  bV (aLen Ty h10 22 t9) fun t49 =>
  bV (aMin2 t48 t49) fun t50 =>
  bV (aSlice Ty 22 t9 (some (.int .i64 7)) (some t50) none) fun t51 =>
  bVH (cvK Ty 22 9 t51 h10) fun t52 h11 =>
  bV (fa 3 t6) fun t53 =>
  bH (st ty9 h11 t53 t52) fun h12 =>
  bV (ld ty159 h12 t6) fun t54 =>
  bVH (F 100 [t54] h12) fun t55 h13 =>
  bV (aExtract t55 0) fun t56 =>
  bV (aExtract t55 1) fun t57 =>
  bH (st ty40 h13 t7 t56) fun h14 =>
  guardV t57 true (fun k => bV (ld ty40 h14 t7) fun t59 =>
  k t59 h14) h14 fun t58 h15 =>
  guardV t57 true (fun k => bV (ld ty40 h15 t1) fun t61 =>
  k t61 h15) h15 fun t60 h16 =>
  guardV t57 true (fun k => bV (aBin Ty .eql 40 t58 t60) fun t63 =>
  k t63 h16) h16 fun t62 h17 =>
  pickK t57 t62 (.bool false) fun t64 =>
  cdK t64 (bV (ld ty159 h17 t6) fun t65 =>
  bH (st ty159 h17 t2 t65) fun h18 =>
  bV (ld ty159 h18 t2) fun t66 =>
  some (.tuple #[t66, (.bool true)], h18))
  (bV (aBuild Ty 159 []) fun t67 =>
  bH (st ty159 h17 t2 t67) fun h19 =>
  bV (ld ty159 h19 t2) fun t68 =>
  some (.tuple #[t68, (.bool false)], h19))))))))))))
theorem e208 (F : FK) (a0 : Value) (h : H) : runK Ty F (lvT 208) (jvT 208) NN FU Go.Proofs.Tryz.f208 [a0] h = F208 F a0 h := by kernel_rfl
def F209 (F : FK) (a0 : Value) (a1 : Value) (a2 : Value) (h0 : H) : Rz :=
  bV (aNilCheck a0) fun t1 =>
  bV (fa 3 t1) fun t2 =>
  bV (ld ty211 h0 t2) fun t3 =>
  bV (aLookup Ty h0 211 t3 a1 true) fun t4 =>
  bV (aExtract t4 0) fun t5 =>
  bV (aExtract t4 1) fun t6 =>
  alK 285 ty285 h0 fun t7 h1 =>
  bH (st ty285 h1 t7 t5) fun h2 =>
  guardV t6 true (fun k => bV (fa 1 t7) fun t9 =>
  k t9 h2) h2 fun t8 h3 =>
  guardV t6 true (fun k => bV (fa 0 t8) fun t11 =>
  k t11 h3) h3 fun t10 h4 =>
  guardV t6 true (fun k => bV (ld ty54 h4 t10) fun t13 =>
  k t13 h4) h4 fun t12 h5 =>
  guardV t6 true (fun k => k a2 h5) h5 fun t14 h6 =>
  guardV t6 true (fun k => bV (aBin Ty .eql 54 t12 t14) fun t16 =>
  k t16 h6) h6 fun t15 h7 =>
  pickK t6 t15 (.bool false) fun t17 =>
  some (t17, h7)
theorem e209 (F : FK) (a0 : Value) (a1 : Value) (a2 : Value) (h : H) : runK Ty F (lvT 209) (jvT 209) NN FU Go.Proofs.Tryz.f209 [a0, a1, a2] h = F209 F a0 a1 a2 h := by kernel_rfl
def F210 (F : FK) (a0 : Value) (a1 : Value) (h0 : H) : Rz :=
  bxK 75 a1 h0 fun t1 h1 =>
  bV (fa 3 t1) fun t2 =>
  bV (aSlice Ty 73 t2 none none none) fun t3 =>
  jn (Value → Value → Value → Value → H → Rz) (fun t4 t5 t6 t7 h2 =>
  bV (aLen Ty h2 87 t6) fun t8 =>
  lpK (Value → Value → Value → Value → Value → Value → H → Rz) (fun _ _ _ _ _ _ _ => none) (fun j2 => fun t9 t10 t11 t12 t13 t14 h3 =>
  bV (aBin Ty .lss 3 t14 t13) fun t15 =>
  cdK t15 (bV (aIndexAddr Ty 87 t12 t14) fun t16 =>
  bV (ld ty3 h3 t16) fun t17 =>
  bV (fa 2 t10) fun t18 =>
  bV (ld ty3 h3 t18) fun t19 =>
  bVH (F 248 [t9, t14, t17, t19] h3) fun t20 h4 =>
  bV (aUn .not t20) fun t21 =>
  cdK t21 (some ((.bool false), h4))
  (bV (aBin Ty .add 3 t14 (.int .i64 1)) fun t22 =>
  j2 t9 t10 t11 t12 t13 t22 h4))
  (some (t11, h3))) NN t4 t5 t7 t6 t8 (.int .i64 0) h2) fun j1 =>
  bV (fa 7 t1) fun t23 =>
  bV (ld ty3 h1 t23) fun t24 =>
  bV (aBin Ty .neq 3 t24 (.int .i64 (-1))) fun t25 =>
  cdK t25 (bV (fa 7 t1) fun t26 =>
  bV (ld ty3 h1 t26) fun t27 =>
  bVH (F 247 [a0, t27, (.int .i64 5)] h1) fun t28 h5 =>
  bV (aUn .not t28) fun t29 =>
  cdK t29 (some ((.bool false), h5))
  (lwK h5 (bV (aNilCheck a0) fun t30 =>
  bV (fa 1 t30) fun t31 =>
  psK h5 [t31] (bV (ld ty41 h5 t31) fun t32 =>
  bV (fa 7 t1) fun t33 =>
  psK h5 [t33] (bV (ld ty3 h5 t33) fun t34 =>
  bV (aIndexAddr Ty 41 t32 t34) fun t35 =>
  psK h5 [t35] (bV (ld ty40 h5 t35) fun t36 =>
  caD (F 231 [t36] (lw0 h5)) h5 [] fun t37 h6 h7 =>
  bV (aExtract t37 0) fun t38 =>
  bV (aExtract t37 1) fun t39 =>
  bV (aUn .not t39) fun t40 =>
  cdK t40 (some ((.bool false), h7))
  (bV (aLen Ty h7 87 t38) fun t41 =>
  lpK (Value → Value → Value → Value → Value → Value → Value → Value → H → Rz) (fun _ _ _ _ _ _ _ _ _ => none) (fun j3 => fun t42 t43 t44 t45 t46 t47 t48 t49 h8 =>
  bV (aBin Ty .lss 3 t49 t48) fun t50 =>
  cdK t50 (bV (aIndexAddr Ty 87 t47 t49) fun t51 =>
  bV (ld ty3 h8 t51) fun t52 =>
  guardV t45 false (fun k => k t52 h8) h8 fun t53 h9 =>
  guardV t45 false (fun k => bV (aBin Ty .neq 3 t53 (.int .i64 (-1))) fun t55 =>
  k t55 h9) h9 fun t54 h10 =>
  pickK t45 (.bool true) t54 fun t56 =>
  bV (aBin Ty .add 3 t49 (.int .i64 1)) fun t57 =>
  j3 t42 t43 t44 t56 t46 t47 t48 t57 h10)
  (bV (aLen Ty h8 87 t44) fun t58 =>
  bV (aLen Ty h8 87 t44) fun t59 =>
  bV (aSlice Ty 87 t44 none (some t58) (some t59)) fun t60 =>
  bVH (aAppend Ty h8 87 87 t60 t46) fun t61 h11 =>
  j1 t42 t43 t61 t45 h11)) NN a0 t1 t3 (.bool false) t38 t38 t41 (.int .i64 0) h7)))))))
  (j1 a0 t1 t3 (.bool true) h1)
theorem e210 (F : FK) (a0 : Value) (a1 : Value) (h : H) : runK Ty F (lvT 210) (jvT 210) NN FU Go.Proofs.Tryz.f210 [a0, a1] h = F210 F a0 a1 h := by kernel_rfl
def F211 (F : FK) (a0 : Value) (h0 : H) : Rz :=
  mmK 292 h0 fun t1 h1 =>
  bV (aNilCheck a0) fun t2 =>
  bV (fa 4 t2) fun t3 =>
  bV (ld ty168 h1 t3) fun t4 =>
  bV (aLen Ty h1 168 t4) fun t5 =>
  lpK (Value → Value → Value → Value → Value → H → Rz) (fun _ _ _ _ _ _ => none) (fun j1 => fun t6 t7 t8 t9 t10 h2 =>
  bV (aBin Ty .lss 3 t10 t9) fun t11 =>
  cdK t11 (jn (Value → Value → Value → Value → Value → H → Rz) (fun t12 t13 t14 t15 t16 h3 =>
  bV (aBin Ty .add 3 t16 (.int .i64 1)) fun t17 =>
  j1 t12 t13 t14 t15 t17 h3) fun j2 =>
  bV (aIndexAddr Ty 168 t8 t10) fun t18 =>
  bV (ld ty159 h2 t18) fun t19 =>
  alK 159 ty159 h2 fun t20 h4 =>
  bH (st ty159 h4 t20 t19) fun h5 =>
  lwK h5 (bV (aNilCheck t6) fun t21 =>
  bV (fa 3 t21) fun t22 =>
  psK h5 [t22] (bV (ld ty211 h5 t22) fun t23 =>
  bV (fa 4 t20) fun t24 =>
  psK h5 [t24] (bV (ld ty3 h5 t24) fun t25 =>
  psK h5 [t23] (bV (aLookup Ty h5 211 t23 t25 false) fun t26 =>
  bV (aField Ty 285 t26 0) fun t27 =>
  bV (aBin Ty .eql 3 t27 (.int .i64 2)) fun t28 =>
  cdK t28 (bV (fa 4 t20) fun t29 =>
  bV (ld ty3 h5 t29) fun t30 =>
  bV (fa 0 t20) fun t31 =>
  bV (ld ty56 h5 t31) fun t32 =>
  bH (aMapUpdate Ty h5 292 t7 t30 t32) fun h6 =>
  j2 t6 t7 t8 t9 t10 h6)
  (j2 t6 t7 t8 t9 t10 h5))))))
  (some (t7, h2))) NN a0 t1 t4 t5 (.int .i64 0) h1
theorem e211 (F : FK) (a0 : Value) (h : H) : runK Ty F (lvT 211) (jvT 211) NN FU Go.Proofs.Tryz.f211 [a0] h = F211 F a0 h := by kernel_rfl
def F212 (F : FK) (a0 : Value) (a1 : Value) (h0 : H) : Rz :=
  bxK 75 a1 h0 fun t1 h1 =>
  jn ((H → Rz) × Unit) (lpK ((H → Rz) × Unit) (fun _ => none, ()) (fun j1 => (fun h2 =>
  some ((.bool false), h2), ())) NN) fun j2 =>
  bV (fa 0 t1) fun t2 =>
  bV (ld ty54 h1 t2) fun t3 =>
  bV (aBin Ty .lss 54 t3 (.int .u32 1)) fun t4 =>
  guardV t4 false (fun k => bV (fa 1 t1) fun t6 =>
  k t6 h1) h1 fun t5 h3 =>
  guardV t4 false (fun k => bV (ld ty3 h3 t5) fun t8 =>
  k t8 h3) h3 fun t7 h4 =>
  guardV t4 false (fun k => bV (aBin Ty .lss 3 t7 (.int .i64 0)) fun t10 =>
  k t10 h4) h4 fun t9 h5 =>
  pickK t4 (.bool true) t9 fun t11 =>
  guardV t11 false (fun k => bV (fa 1 t1) fun t13 =>
  k t13 h5) h5 fun t12 h6 =>
  guardV t11 false (fun k => bV (ld ty3 h6 t12) fun t15 =>
  k t15 h6) h6 fun t14 h7 =>
  guardV t11 false (fun k => bV (aBin Ty .gtr 3 t14 (.int .i64 1000)) fun t17 =>
  k t17 h7) h7 fun t16 h8 =>
  pickK t11 (.bool true) t16 fun t18 =>
  cdK t18 (j2.1 h8)
  (bV (aBin Ty .eql 3 a0 (.int .i64 1)) fun t19 =>
  cdK t19 (bV (ld ty75 h8 t1) fun t20 =>
  bVH (F 249 [t20] h8) fun t21 h9 =>
  some (t21, h9))
  (bV (aBin Ty .eql 3 a0 (.int .i64 2)) fun t22 =>
  cdK t22 (bV (fa 2 t1) fun t23 =>
  bV (ld ty3 h8 t23) fun t24 =>
  bV (aBin Ty .eql 3 t24 (.int .i64 0)) fun t25 =>
  guardV t25 true (fun k => bV (ld ty75 h8 t1) fun t27 =>
  k t27 h8) h8 fun t26 h10 =>
  guardV t25 true (fun k => bVH (F 250 [t26] h10) fun t29 h12 =>
  k t29 h12) h10 fun t28 h11 =>
  pickK t25 t28 (.bool false) fun t30 =>
  guardV t30 true (fun k => bV (fa 8 t1) fun t32 =>
  k t32 h11) h11 fun t31 h13 =>
  guardV t30 true (fun k => bV (ld ty9 h13 t31) fun t34 =>
  k t34 h13) h13 fun t33 h14 =>
  guardV t30 true (fun k => bV (aBin Ty .eql 9 t33 (.string ⟨#[]⟩)) fun t36 =>
  k t36 h14) h14 fun t35 h15 =>
  pickK t30 t35 (.bool false) fun t37 =>
  guardV t37 true (fun k => bV (fa 1 t1) fun t39 =>
  k t39 h15) h15 fun t38 h16 =>
  guardV t37 true (fun k => bV (ld ty3 h16 t38) fun t41 =>
  k t41 h16) h16 fun t40 h17 =>
  guardV t37 true (fun k => bV (aBin Ty .leq 3 t40 (.int .i64 1)) fun t43 =>
  k t43 h17) h17 fun t42 h18 =>
  pickK t37 t42 (.bool false) fun t44 =>
  some (t44, h18))
  (bV (aBin Ty .eql 3 a0 (.int .i64 3)) fun t45 =>
  cdK t45 (bV (fa 8 t1) fun t46 =>
  bV (ld ty9 h8 t46) fun t47 =>
  bVH (F 251 [t47] h8) fun t48 h19 =>
  guardV t48 true (fun k => bV (fa 2 t1) fun t50 =>
  k t50 h19) h19 fun t49 h20 =>
  guardV t48 true (fun k => bV (ld ty3 h20 t49) fun t52 =>
  k t52 h20) h20 fun t51 h21 =>
  guardV t48 true (fun k => bV (fa 8 t1) fun t54 =>
  k t54 h21) h21 fun t53 h22 =>
  guardV t48 true (fun k => bV (ld ty9 h22 t53) fun t56 =>
  k t56 h22) h22 fun t55 h23 =>
  guardV t48 true (fun k => bV (aLen Ty h23 9 t55) fun t58 =>
  k t58 h23) h23 fun t57 h24 =>
  guardV t48 true (fun k => bV (aBin Ty .eql 3 t51 t57) fun t60 =>
  k t60 h24) h24 fun t59 h25 =>
  pickK t48 t59 (.bool false) fun t61 =>
  guardV t61 true (fun k => bV (ld ty75 h25 t1) fun t63 =>
  k t63 h25) h25 fun t62 h26 =>
  guardV t61 true (fun k => bVH (F 250 [t62] h26) fun t65 h28 =>
  k t65 h28) h26 fun t64 h27 =>
  pickK t61 t64 (.bool false) fun t66 =>
  some (t66, h27))
  (some ((.bool false), h8)))))
theorem e212 (F : FK) (a0 : Value) (a1 : Value) (h : H) : runK Ty F (lvT 212) (jvT 212) NN FU Go.Proofs.Tryz.f212 [a0, a1] h = F212 F a0 a1 h := by kernel_rfl
end
end Go.Ab.Tryz
