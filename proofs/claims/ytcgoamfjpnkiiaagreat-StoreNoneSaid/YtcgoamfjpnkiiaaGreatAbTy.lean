/- The seat's types. Conditions: none. -/
import Derived.Test.YtcgoamfjpnkiiaaGreatAbS
import Derived.KernelRfl
import Derived.Test.YtcgoamfjpnkiiaaGreatProg
set_option linter.all false
namespace Go.Ab.Tryz
open Go.RowKit
def ty3 : TI := ⟨.int .i64, 1, 8, (zs [(1, .int .i64 0)]), true⟩
def ty4 : TI := ⟨.bool, 1, 1, (zs [(1, .bool false)]), true⟩
def ty5 : TI := ⟨.int .u8, 1, 1, (zs [(1, .int .u8 0)]), true⟩
def ty9 : TI := ⟨.string, 1, 16, (zs [(1, .string ⟨#[]⟩)]), true⟩
def ty21 : TI := ⟨.int .i32, 1, 4, (zs [(1, .int .i32 0)]), true⟩
def ty22 : TI := ⟨.slice 5, 1, 24, (zs [(1, .slice none 0 0)]), false⟩
def ty24 : TI := ⟨.pointer 128, 1, 8, (zs [(1, .pointer none)]), false⟩
def ty26 : TI := ⟨.struct [(0, 3), (1, 3)], 2, 16, (zs [(2, .int .i64 0)]), true⟩
def ty28 : TI := ⟨.struct [(0, 26), (2, 3), (3, 3), (4, 3)], 5, 40, (zs [(5, .int .i64 0)]), true⟩
def ty29 : TI := ⟨.pointer 143, 1, 8, (zs [(1, .pointer none)]), false⟩
def ty30 : TI := ⟨.pointer 43, 1, 8, (zs [(1, .pointer none)]), false⟩
def ty33 : TI := ⟨.pointer 118, 1, 8, (zs [(1, .pointer none)]), false⟩
def ty38 : TI := ⟨.array 56 5, 56, 56, (zs [(56, .int .u8 0)]), true⟩
def ty40 : TI := ⟨.struct [(0, 3), (1, 38)], 57, 64, (zs [(1, .int .i64 0), (56, .int .u8 0)]), true⟩
def ty41 : TI := ⟨.slice 40, 1, 24, (zs [(1, .slice none 0 0)]), false⟩
def ty43 : TI := ⟨.struct [(0, 3), (1, 41)], 2, 32, (zs [(1, .int .i64 0), (1, .slice none 0 0)]), false⟩
def ty46 : TI := ⟨.int .i64, 1, 8, (zs [(1, .int .i64 0)]), true⟩
def ty53 : TI := ⟨.slice 63, 1, 24, (zs [(1, .slice none 0 0)]), false⟩
def ty54 : TI := ⟨.int .u32, 1, 4, (zs [(1, .int .u32 0)]), true⟩
def ty56 : TI := ⟨.struct [(0, 3), (1, 3), (2, 54)], 3, 24, (zs [(2, .int .i64 0), (1, .int .u32 0)]), true⟩
def ty58 : TI := ⟨.slice 56, 1, 24, (zs [(1, .slice none 0 0)]), false⟩
def ty61 : TI := ⟨.array 10 56, 30, 240, (zs [(2, .int .i64 0), (1, .int .u32 0), (2, .int .i64 0), (1, .int .u32 0), (2, .int .i64 0), (1, .int .u32 0), (2, .int .i64 0), (1, .int .u32 0), (2, .int .i64 0), (1, .int .u32 0), (2, .int .i64 0), (1, .int .u32 0), (2, .int .i64 0), (1, .int .u32 0), (2, .int .i64 0), (1, .int .u32 0), (2, .int .i64 0), (1, .int .u32 0), (2, .int .i64 0), (1, .int .u32 0)]), true⟩
def ty62 : TI := ⟨.array 3 61, 90, 720, (zs [(2, .int .i64 0), (1, .int .u32 0), (2, .int .i64 0), (1, .int .u32 0), (2, .int .i64 0), (1, .int .u32 0), (2, .int .i64 0), (1, .int .u32 0), (2, .int .i64 0), (1, .int .u32 0), (2, .int .i64 0), (1, .int .u32 0), (2, .int .i64 0), (1, .int .u32 0), (2, .int .i64 0), (1, .int .u32 0), (2, .int .i64 0), (1, .int .u32 0), (2, .int .i64 0), (1, .int .u32 0), (2, .int .i64 0), (1, .int .u32 0), (2, .int .i64 0), (1, .int .u32 0), (2, .int .i64 0), (1, .int .u32 0), (2, .int .i64 0), (1, .int .u32 0), (2, .int .i64 0), (1, .int .u32 0), (2, .int .i64 0), (1, .int .u32 0), (2, .int .i64 0), (1, .int .u32 0), (2, .int .i64 0), (1, .int .u32 0), (2, .int .i64 0), (1, .int .u32 0), (2, .int .i64 0), (1, .int .u32 0), (2, .int .i64 0), (1, .int .u32 0), (2, .int .i64 0), (1, .int .u32 0), (2, .int .i64 0), (1, .int .u32 0), (2, .int .i64 0), (1, .int .u32 0), (2, .int .i64 0), (1, .int .u32 0), (2, .int .i64 0), (1, .int .u32 0), (2, .int .i64 0), (1, .int .u32 0), (2, .int .i64 0), (1, .int .u32 0), (2, .int .i64 0), (1, .int .u32 0), (2, .int .i64 0), (1, .int .u32 0)]), true⟩
def ty63 : TI := ⟨.array 3 5, 3, 3, (zs [(3, .int .u8 0)]), true⟩
def ty64 : TI := ⟨.slice 9, 1, 24, (zs [(1, .slice none 0 0)]), false⟩
def ty70 : TI := ⟨.array 8 4, 8, 8, (zs [(8, .bool false)]), true⟩
def ty73 : TI := ⟨.array 4 3, 4, 32, (zs [(4, .int .i64 0)]), true⟩
def ty75 : TI := ⟨.struct [(0, 54), (1, 3), (2, 3), (3, 73), (7, 3), (8, 9)], 9, 80, (zs [(1, .int .u32 0), (7, .int .i64 0), (1, .string ⟨#[]⟩)]), true⟩
def ty87 : TI := ⟨.slice 3, 1, 24, (zs [(1, .slice none 0 0)]), false⟩
def ty90 : TI := ⟨.slice 94, 1, 24, (zs [(1, .slice none 0 0)]), false⟩
def ty94 : TI := ⟨.struct [(0, 3), (1, 3), (2, 3), (3, 3), (4, 9), (5, 9), (6, 56), (9, 3), (10, 22), (11, 4)], 12, 128, (zs [(4, .int .i64 0), (2, .string ⟨#[]⟩), (2, .int .i64 0), (1, .int .u32 0), (1, .int .i64 0), (1, .slice none 0 0), (1, .bool false)]), false⟩
def ty96 : TI := ⟨.struct [(0, 58), (1, 56)], 4, 48, (zs [(1, .slice none 0 0), (2, .int .i64 0), (1, .int .u32 0)]), false⟩
def ty100 : TI := ⟨.slice 22, 1, 24, (zs [(1, .slice none 0 0)]), false⟩
def ty108 : TI := ⟨.int .u16, 1, 2, (zs [(1, .int .u16 0)]), true⟩
def ty109 : TI := ⟨.slice 41, 1, 24, (zs [(1, .slice none 0 0)]), false⟩
def ty118 : TI := ⟨.struct [(0, 22), (1, 3)], 2, 32, (zs [(1, .slice none 0 0), (1, .int .i64 0)]), false⟩
def ty122 : TI := ⟨.int .u64, 1, 8, (zs [(1, .int .u64 0)]), true⟩
def ty124 : TI := ⟨.pointer 131, 1, 8, (zs [(1, .pointer none)]), false⟩
def ty126 : TI := ⟨.slice 124, 1, 24, (zs [(1, .slice none 0 0)]), false⟩
def ty128 : TI := ⟨.struct [(0, 126), (1, 3)], 2, 32, (zs [(1, .slice none 0 0), (1, .int .i64 0)]), false⟩
def ty129 : TI := ⟨.slice 133, 1, 24, (zs [(1, .slice none 0 0)]), false⟩
def ty131 : TI := ⟨.struct [(0, 100), (1, 100), (2, 129), (3, 100)], 4, 96, (zs [(4, .slice none 0 0)]), false⟩
def ty133 : TI := ⟨.struct [(0, 3), (1, 22)], 2, 32, (zs [(1, .int .i64 0), (1, .slice none 0 0)]), false⟩
def ty135 : TI := ⟨.int .u64, 1, 8, (zs [(1, .int .u64 0)]), true⟩
def ty136 : TI := ⟨.complex .f64, 1, 16, (zs [(1, .complex .f64 0 0)]), false⟩
def ty137 : TI := ⟨.complex .f64, 1, 16, (zs [(1, .complex .f64 0 0)]), false⟩
def ty139 : TI := ⟨.pointer 209, 1, 8, (zs [(1, .pointer none)]), false⟩
def ty143 : TI := ⟨.struct [(0, 139), (1, 3)], 2, 16, (zs [(1, .pointer none), (1, .int .i64 0)]), false⟩
def ty147 : TI := ⟨.pointer 216, 1, 8, (zs [(1, .pointer none)]), false⟩
def ty159 : TI := ⟨.struct [(0, 56), (3, 9), (4, 3), (5, 54)], 6, 56, (zs [(2, .int .i64 0), (1, .int .u32 0), (1, .string ⟨#[]⟩), (1, .int .i64 0), (1, .int .u32 0)]), true⟩
def ty168 : TI := ⟨.slice 159, 1, 24, (zs [(1, .slice none 0 0)]), false⟩
def ty184 : TI := ⟨.func, 1, 8, (zs [(1, .nilFunc)]), false⟩
def ty203 : TI := ⟨.float .f64, 1, 8, (zs [(1, .float .f64 0)]), false⟩
def ty205 : TI := ⟨.map 3 40, 1, 8, (zs [(1, .map none)]), false⟩
def ty207 : TI := ⟨.map 3 4, 1, 8, (zs [(1, .map none)]), false⟩
def ty209 : TI := ⟨.struct [(0, 24), (1, 3), (2, 28), (7, 5), (8, 54), (9, 54), (10, 3), (11, 41), (12, 207)], 13, 112, (zs [(1, .pointer none), (6, .int .i64 0), (1, .int .u8 0), (2, .int .u32 0), (1, .int .i64 0), (1, .slice none 0 0), (1, .map none)]), false⟩
def ty210 : TI := ⟨.pointer 213, 1, 8, (zs [(1, .pointer none)]), false⟩
def ty211 : TI := ⟨.map 3 285, 1, 8, (zs [(1, .map none)]), false⟩
def ty213 : TI := ⟨.struct [(0, 3), (1, 41), (2, 54), (3, 211), (4, 168), (5, 207)], 6, 80, (zs [(1, .int .i64 0), (1, .slice none 0 0), (1, .int .u32 0), (1, .map none), (1, .slice none 0 0), (1, .map none)]), false⟩
def ty216 : TI := ⟨.struct [(0, 139), (1, 205), (2, 207)], 3, 24, (zs [(1, .pointer none), (2, .map none)]), false⟩
def ty218 : TI := ⟨.slice 278, 1, 24, (zs [(1, .slice none 0 0)]), false⟩
def ty223 : TI := ⟨.slice 4, 1, 24, (zs [(1, .slice none 0 0)]), false⟩
def ty228 : TI := ⟨.func, 1, 8, (zs [(1, .nilFunc)]), false⟩
def ty233 : TI := ⟨.pointer 310, 1, 8, (zs [(1, .pointer none)]), false⟩
def ty236 : TI := ⟨.func, 1, 8, (zs [(1, .nilFunc)]), false⟩
def ty239 : TI := ⟨.func, 1, 8, (zs [(1, .nilFunc)]), false⟩
def ty240 : TI := ⟨.pointer 249, 1, 8, (zs [(1, .pointer none)]), false⟩
def ty243 : TI := ⟨.slice 246, 1, 24, (zs [(1, .slice none 0 0)]), false⟩
def ty246 : TI := ⟨.struct [(0, 3), (1, 3), (2, 3)], 3, 24, (zs [(3, .int .i64 0)]), true⟩
def ty249 : TI := ⟨.struct [(0, 147), (1, 3), (2, 75), (11, 87)], 12, 120, (zs [(1, .pointer none), (1, .int .i64 0), (1, .int .u32 0), (7, .int .i64 0), (1, .string ⟨#[]⟩), (1, .slice none 0 0)]), false⟩
def ty252 : TI := ⟨.pointer 3, 1, 8, (zs [(1, .pointer none)]), false⟩
def ty278 : TI := ⟨.struct [(0, 3), (1, 40)], 58, 72, (zs [(2, .int .i64 0), (56, .int .u8 0)]), true⟩
def ty282 : TI := ⟨.func, 1, 8, (zs [(1, .nilFunc)]), false⟩
def ty285 : TI := ⟨.struct [(0, 3), (1, 75)], 10, 88, (zs [(1, .int .i64 0), (1, .int .u32 0), (7, .int .i64 0), (1, .string ⟨#[]⟩)]), true⟩
def ty286 : TI := ⟨.map 289 4, 1, 8, (zs [(1, .map none)]), false⟩
def ty287 : TI := ⟨.map 3 3, 1, 8, (zs [(1, .map none)]), false⟩
def ty289 : TI := ⟨.struct [(0, 56), (3, 9)], 4, 40, (zs [(2, .int .i64 0), (1, .int .u32 0), (1, .string ⟨#[]⟩)]), true⟩
def ty292 : TI := ⟨.map 3 56, 1, 8, (zs [(1, .map none)]), false⟩
def ty294 : TI := ⟨.pointer 296, 1, 8, (zs [(1, .pointer none)]), false⟩
def ty296 : TI := ⟨.struct [(0, 22)], 1, 24, (zs [(1, .slice none 0 0)]), false⟩
def ty302 : TI := ⟨.func, 1, 8, (zs [(1, .nilFunc)]), false⟩
def ty310 : TI := ⟨.struct [(0, 223)], 1, 24, (zs [(1, .slice none 0 0)]), false⟩
def ty314 : TI := ⟨.complex .f64, 1, 16, (zs [(1, .complex .f64 0 0)]), false⟩
def ty346 : TI := ⟨.int .i64, 1, 8, (zs [(1, .int .i64 0)]), true⟩
def ty353 : TI := ⟨.int .u64, 1, 8, (zs [(1, .int .u64 0)]), true⟩
def tyTab : Tr TI := (.node (.node (.node (.node (.node (.node (.node .leaf (some ty63) .leaf) none (.node (.node (.node .leaf (some ty287) .leaf) (some ty159) .leaf) none (.node .leaf (some ty223) .leaf))) none (.node (.node (.node .leaf (some ty143) .leaf) none (.node .leaf (some ty207) .leaf)) none (.node .leaf none (.node .leaf (some ty239) .leaf)))) none (.node (.node (.node (.node .leaf (some ty135) .leaf) none .leaf) none .leaf) none (.node (.node .leaf (some ty87) .leaf) none .leaf))) (some ty3) (.node (.node (.node (.node (.node .leaf (some ty131) .leaf) none .leaf) none .leaf) none (.node (.node (.node .leaf (some ty147) .leaf) none (.node .leaf (some ty211) .leaf)) none (.node .leaf none (.node .leaf (some ty243) .leaf)))) none (.node (.node (.node (.node .leaf (some ty139) .leaf) (some ty75) (.node .leaf (some ty203) .leaf)) (some ty43) .leaf) none .leaf))) none (.node (.node (.node (.node (.node (.node .leaf (some ty129) .leaf) none .leaf) (some ty33) (.node (.node (.node .leaf (some ty289) .leaf) none .leaf) none (.node (.node .leaf (some ty353) .leaf) none .leaf))) none (.node (.node .leaf none (.node .leaf (some ty209) .leaf)) none .leaf)) (some ty9) (.node (.node (.node (.node .leaf (some ty137) .leaf) (some ty73) .leaf) (some ty41) (.node .leaf none (.node .leaf (some ty233) .leaf))) none (.node .leaf none (.node .leaf none (.node .leaf (some ty249) .leaf))))) (some ty5) (.node (.node (.node (.node (.node .leaf (some ty133) .leaf) none .leaf) none .leaf) (some ty21) (.node (.node .leaf none (.node .leaf (some ty213) .leaf)) (some ty53) .leaf)) none (.node (.node (.node .leaf none (.node .leaf (some ty205) .leaf)) none (.node .leaf (some ty109) .leaf)) (some ty29) (.node (.node (.node (.node .leaf (some ty285) .leaf) none .leaf) none .leaf) (some ty61) .leaf))))) none (.node (.node (.node (.node (.node (.node (.node .leaf (some ty128) .leaf) (some ty64) .leaf) none (.node .leaf (some ty96) .leaf)) none (.node .leaf none (.node .leaf none (.node .leaf (some ty240) .leaf)))) none (.node (.node (.node (.node .leaf (some ty136) .leaf) none .leaf) (some ty40) (.node (.node (.node .leaf (some ty296) .leaf) (some ty168) .leaf) none .leaf)) (some ty24) (.node (.node .leaf none (.node .leaf (some ty216) .leaf)) (some ty56) (.node (.node .leaf (some ty184) .leaf) none .leaf)))) (some ty4) (.node (.node (.node .leaf none (.node (.node (.node .leaf (some ty292) .leaf) none .leaf) (some ty100) (.node .leaf (some ty228) .leaf))) none .leaf) none (.node (.node .leaf none (.node .leaf (some ty108) (.node .leaf (some ty236) .leaf))) (some ty28) (.node .leaf none (.node .leaf (some ty124) (.node .leaf (some ty252) .leaf)))))) none (.node (.node (.node .leaf none (.node (.node .leaf none (.node .leaf (some ty210) .leaf)) none .leaf)) none (.node .leaf (some ty26) (.node (.node (.node (.node .leaf (some ty282) .leaf) none .leaf) (some ty90) (.node (.node .leaf (some ty346) .leaf) (some ty218) .leaf)) (some ty58) (.node (.node (.node .leaf (some ty314) .leaf) none .leaf) (some ty122) .leaf)))) none (.node (.node (.node (.node .leaf (some ty70) .leaf) (some ty38) (.node (.node (.node .leaf (some ty294) .leaf) none .leaf) none .leaf)) (some ty22) (.node (.node (.node (.node .leaf (some ty278) .leaf) none .leaf) none .leaf) (some ty54) (.node (.node (.node .leaf (some ty310) .leaf) none .leaf) (some ty118) (.node .leaf (some ty246) .leaf)))) none (.node (.node .leaf (some ty46) (.node (.node (.node .leaf (some ty302) .leaf) none .leaf) none .leaf)) (some ty30) (.node (.node (.node (.node .leaf (some ty286) .leaf) none .leaf) (some ty94) .leaf) (some ty62) (.node .leaf (some ty126) .leaf)))))))

noncomputable abbrev Ty : Types := tyTab.get
theorem tyOk : TyOk Go.Proofs.Tryz.prog Ty := tyOk_of (by kernel_rfl)
theorem mixed : Go.Proofs.Tryz.prog.follows .mixedOrders = true := by kernel_rfl
end Go.Ab.Tryz
