/- StoreNone: what no store tells, at every ID and name: the call returns true, nothing that was there turns. Conditions: none. -/
import Derived.Test.YtcgoamfjpnkiiaaGreatAbHc
import Derived.KernelRfl
set_option linter.all false
namespace Go.Ab.Tryz
noncomputable section
open Tr Go.RowKit

/-- The law's text, its one test (is the name too long?) answered. -/
def K11 (F : FK) (a0 : Value) (a1 : Value) (h0 : H) (b : Bool) : Rz :=
  bxK 56 a0 h0 fun t1 h1 =>
  bVH (F 14 [] h1) fun t2 h2 =>
  bV (aUn .not t2) fun t3 =>
  cdK t3 (some ((.bool false), h2))
  (bV (aLen Ty h2 9 a1) fun t4 =>
  bV (aBin Ty .gtr 3 t4 (.int .i64 40)) fun t5 =>
  cdK (.bool b) (some ((.bool true), h2))
  (bV (ld ty56 h2 t1) fun t6 =>
  bVH (F 25 [(.pointer none), t6, a1, (.int .i64 1), (.string ⟨#[]⟩)] h2) fun t7 h3 =>
  bV (aExtract t7 0) fun t8 =>
  bV (aExtract t7 1) fun t9 =>
  alK 56 ty56 h3 fun t10 h4 =>
  bH (st ty56 h4 t10 t8) fun h5 =>
  bV (ld ty56 h5 t1) fun t11 =>
  bVH (F 35 [(.pointer none), t11, (.int .i64 0), (.int .i64 1)] h5) fun t12 h6 =>
  bV (aExtract t12 0) fun t13 =>
  bV (aExtract t12 1) fun t14 =>
  bV (ld ty56 h6 t1) fun t15 =>
  bVH (F 32 [(.pointer none), t15, (.int .i64 0), (.slice none 0 0)] h6) fun t16 h7 =>
  bV (aExtract t16 0) fun t17 =>
  bV (aExtract t16 1) fun t18 =>
  bV (ld ty56 h7 t1) fun t19 =>
  bVH (F 31 [(.pointer none), t19] h7) fun t20 h8 =>
  bV (aExtract t20 0) fun t21 =>
  bV (aExtract t20 1) fun t22 =>
  bV (aExtract t20 2) fun t23 =>
  alK 75 ty75 h8 fun t24 h9 =>
  bH (st ty75 h9 t24 t22) fun h10 =>
  bV (ld ty56 h10 t1) fun t25 =>
  bVH (F 27 [(.pointer none), t25, a1] h10) fun t26 h11 =>
  bV (aExtract t26 0) fun t27 =>
  bV (aExtract t26 1) fun t28 =>
  alK 56 ty56 h11 fun t29 h12 =>
  bH (st ty56 h12 t29 t27) fun h13 =>
  bVH (F 42 [(.pointer none)] h13) fun t30 h14 =>
  bVH (F 43 [(.pointer none)] h14) fun t31 h15 =>
  bV (aBin Ty .eql 46 t9 (.int .i64 1)) fun t32 =>
  guardV t32 true (fun k => k (.pointer none) h15) h15 fun t33 h16 =>
  guardV t32 true (fun k => bV (ld ty56 h16 t1) fun t35 =>
  k t35 h16) h16 fun t34 h17 =>
  guardV t32 true (fun k => k a1 h17) h17 fun t36 h18 =>
  guardV t32 true (fun k => bV (ld ty56 h18 t1) fun t38 =>
  k t38 h18) h18 fun t37 h19 =>
  guardV t32 true (fun k => bVH (F 29 [t33, t34, t36, t37] h19) fun t40 h21 =>
  k t40 h21) h19 fun t39 h20 =>
  guardV t32 true (fun k => bV (aBin Ty .eql 46 t39 (.int .i64 1)) fun t42 =>
  k t42 h20) h20 fun t41 h22 =>
  pickK t32 t41 (.bool false) fun t43 =>
  guardV t43 true (fun k => k (.pointer none) h22) h22 fun t44 h23 =>
  guardV t43 true (fun k => bV (ld ty56 h23 t1) fun t46 =>
  k t46 h23) h23 fun t45 h24 =>
  guardV t43 true (fun k => k a1 h24) h24 fun t47 h25 =>
  guardV t43 true (fun k => bVH (F 30 [t44, t45, t47, (.bool true)] h25) fun t49 h27 =>
  k t49 h27) h25 fun t48 h26 =>
  guardV t43 true (fun k => bV (aBin Ty .eql 46 t48 (.int .i64 1)) fun t51 =>
  k t51 h26) h26 fun t50 h28 =>
  pickK t43 t50 (.bool false) fun t52 =>
  guardV t52 true (fun k => k (.pointer none) h28) h28 fun t53 h29 =>
  guardV t52 true (fun k => bV (ld ty56 h29 t1) fun t55 =>
  k t55 h29) h29 fun t54 h30 =>
  guardV t52 true (fun k => k a1 h30) h30 fun t56 h31 =>
  guardV t52 true (fun k => bVH (F 44 [t53, t54, t56] h31) fun t58 h33 =>
  k t58 h33) h31 fun t57 h32 =>
  guardV t52 true (fun k => bV (aBin Ty .eql 46 t57 (.int .i64 1)) fun t60 =>
  k t60 h32) h32 fun t59 h34 =>
  pickK t52 t59 (.bool false) fun t61 =>
  guardV t61 true (fun k => k (.pointer none) h34) h34 fun t62 h35 =>
  guardV t61 true (fun k => bV (ld ty56 h35 t1) fun t64 =>
  k t64 h35) h35 fun t63 h36 =>
  guardV t61 true (fun k => k a1 h36) h36 fun t65 h37 =>
  guardV t61 true (fun k => bV (ld ty56 h37 t1) fun t67 =>
  k t67 h37) h37 fun t66 h38 =>
  guardV t61 true (fun k => k a1 h38) h38 fun t68 h39 =>
  guardV t61 true (fun k => bVH (F 34 [t62, t63, t65, t66, t68, (.bool false)] h39) fun t70 h41 =>
  k t70 h41) h39 fun t69 h40 =>
  guardV t61 true (fun k => bV (aBin Ty .eql 46 t69 (.int .i64 1)) fun t72 =>
  k t72 h40) h40 fun t71 h42 =>
  pickK t61 t71 (.bool false) fun t73 =>
  guardV t73 true (fun k => k (.pointer none) h42) h42 fun t74 h43 =>
  guardV t73 true (fun k => bV (ld ty56 h43 t1) fun t76 =>
  k t76 h43) h43 fun t75 h44 =>
  guardV t73 true (fun k => bVH (F 36 [t74, t75] h44) fun t78 h46 =>
  k t78 h46) h44 fun t77 h45 =>
  guardV t73 true (fun k => bV (aBin Ty .eql 46 t77 (.int .i64 1)) fun t80 =>
  k t80 h45) h45 fun t79 h47 =>
  pickK t73 t79 (.bool false) fun t81 =>
  guardV t81 true (fun k => k t14 h47) h47 fun t82 h48 =>
  guardV t81 true (fun k => bV (aBin Ty .eql 46 t82 (.int .i64 1)) fun t84 =>
  k t84 h48) h48 fun t83 h49 =>
  pickK t81 t83 (.bool false) fun t85 =>
  guardV t85 true (fun k => k t18 h49) h49 fun t86 h50 =>
  guardV t85 true (fun k => bV (aBin Ty .eql 46 t86 (.int .i64 1)) fun t88 =>
  k t88 h50) h50 fun t87 h51 =>
  pickK t85 t87 (.bool false) fun t89 =>
  guardV t89 true (fun k => k (.pointer none) h51) h51 fun t90 h52 =>
  guardV t89 true (fun k => bV (ld ty56 h52 t1) fun t92 =>
  k t92 h52) h52 fun t91 h53 =>
  guardV t89 true (fun k => bVH (F 45 [t90, t91, (.int .i64 0)] h53) fun t94 h55 =>
  k t94 h55) h53 fun t93 h54 =>
  guardV t89 true (fun k => bV (aBin Ty .eql 46 t93 (.int .i64 1)) fun t96 =>
  k t96 h54) h54 fun t95 h56 =>
  pickK t89 t95 (.bool false) fun t97 =>
  guardV t97 true (fun k => k t23 h56) h56 fun t98 h57 =>
  guardV t97 true (fun k => bV (aUn .not t98) fun t100 =>
  k t100 h57) h57 fun t99 h58 =>
  pickK t97 t99 (.bool false) fun t101 =>
  guardV t101 true (fun k => k t28 h58) h58 fun t102 h59 =>
  guardV t101 true (fun k => bV (aUn .not t102) fun t104 =>
  k t104 h59) h59 fun t103 h60 =>
  pickK t101 t103 (.bool false) fun t105 =>
  guardV t105 true (fun k => k (.pointer none) h60) h60 fun t106 h61 =>
  guardV t105 true (fun k => bV (ld ty56 h61 t1) fun t108 =>
  k t108 h61) h61 fun t107 h62 =>
  guardV t105 true (fun k => bVH (F 26 [t106, t107] h62) fun t110 h64 =>
  k t110 h64) h62 fun t109 h63 =>
  guardV t105 true (fun k => bV (aLen Ty h63 64 t109) fun t112 =>
  k t112 h63) h63 fun t111 h65 =>
  guardV t105 true (fun k => bV (aBin Ty .eql 3 t111 (.int .i64 0)) fun t114 =>
  k t114 h65) h65 fun t113 h66 =>
  pickK t105 t113 (.bool false) fun t115 =>
  guardV t115 true (fun k => k (.pointer none) h66) h66 fun t116 h67 =>
  guardV t115 true (fun k => bVH (F 28 [t116] h67) fun t118 h69 =>
  k t118 h69) h67 fun t117 h68 =>
  guardV t115 true (fun k => bV (aBin Ty .eql 3 t117 (.int .i64 0)) fun t120 =>
  k t120 h68) h68 fun t119 h70 =>
  pickK t115 t119 (.bool false) fun t121 =>
  guardV t121 true (fun k => k (.pointer none) h70) h70 fun t122 h71 =>
  guardV t121 true (fun k => bVH (F 33 [t122] h71) fun t124 h73 =>
  k t124 h73) h71 fun t123 h72 =>
  guardV t121 true (fun k => bV (aLen Ty h72 41 t123) fun t126 =>
  k t126 h72) h72 fun t125 h74 =>
  guardV t121 true (fun k => bV (aBin Ty .eql 3 t125 (.int .i64 0)) fun t128 =>
  k t128 h74) h74 fun t127 h75 =>
  pickK t121 t127 (.bool false) fun t129 =>
  some (t129, h75)))

set_option maxRecDepth 1000000 in
theorem k11_eq (l a g : Int) (s : ByteArray) : deepE fTab GB 40 11 [.agg #[.int .i64 l, .int .i64 a, .int .u32 g], .string s] hE = K11 (deepE fTab GB 39) (.agg #[.int .i64 l, .int .i64 a, .int .u32 g]) (.string s) hE (decide ((s.size : Int) > 40)) := by kernel_rfl
set_option maxRecDepth 1000000 in
theorem k11_run (l a g : Int) (s : ByteArray) (b : Bool) : isT (K11 (deepE fTab GB 39) (.agg #[.int .i64 l, .int .i64 a, .int .u32 g]) (.string s) hE b) = true := by cases b <;> kernel_rfl

theorem none_run (l a g : Int) (s : ByteArray) : isT (deepE fTab GB 40 11 [.agg #[.int .i64 l, .int .i64 a, .int .u32 g], .string s] hE) = true := by
  rw [k11_eq]; exact k11_run l a g s _

theorem none_calls (l a g : Int) (s : ByteArray) (w : World) : Calls Go.Proofs.Tryz.prog 11 #[.agg #[.int .i64 l, .int .i64 a, .int .u32 g], .string s] w fun e w' => e = .returned (.bool true) ∧ Below w.heap.size w w' :=
  run_closed GB_sound (args := [.agg #[.int .i64 l, .int .i64 a, .int .u32 g], .string s]) (fun v hv => by
    rcases List.mem_cons.1 hv with rfl | hv
    · rfl
    · rcases List.mem_cons.1 hv with rfl | hv
      · rfl
      · cases hv) (none_run l a g s) w
end
end Go.Ab.Tryz
