/- The table of the functions without frames (printed). Conditions: none. -/
import Derived.Test.YtcgoamfjpnkiiaaGreatAbEn0
import Derived.Test.YtcgoamfjpnkiiaaGreatAbEn1
set_option linter.all false
namespace Go.Ab.Tryz
noncomputable section
open Tr
abbrev TP : Nat → (FK → FunA) → Prop := TabP Ty fnTab lvT jvT NN FU
def G11 : FK → FunA := fun F args h => match args with
  | [a0, a1] => F11 F a0 a1 h
  | _ => none
theorem g11 : TP 11 G11 := ⟨Go.Proofs.Tryz.f11, by kernel_rfl, fun F args h r he => by
  unfold G11 at he
  split at he
  · rw [e11]; exact he
  · cases he⟩
def G14 : FK → FunA := fun F args h => match args with
  | [] => F14 F h
  | _ => none
theorem g14 : TP 14 G14 := ⟨Go.Proofs.Tryz.f14, by kernel_rfl, fun F args h r he => by
  unfold G14 at he
  split at he
  · rw [e14]; exact he
  · cases he⟩
def G19 : FK → FunA := fun F args h => match args with
  | [a0, a1, a2, a3] => F19 F a0 a1 a2 a3 h
  | _ => none
theorem g19 : TP 19 G19 := ⟨Go.Proofs.Tryz.f19, by kernel_rfl, fun F args h r he => by
  unfold G19 at he
  split at he
  · rw [e19]; exact he
  · cases he⟩
def G20 : FK → FunA := fun F args h => match args with
  | [a0, a1] => F20 F a0 a1 h
  | _ => none
theorem g20 : TP 20 G20 := ⟨Go.Proofs.Tryz.f20, by kernel_rfl, fun F args h r he => by
  unfold G20 at he
  split at he
  · rw [e20]; exact he
  · cases he⟩
def G21 : FK → FunA := fun F args h => match args with
  | [a0, a1, a2] => F21 F a0 a1 a2 h
  | _ => none
theorem g21 : TP 21 G21 := ⟨Go.Proofs.Tryz.f21, by kernel_rfl, fun F args h r he => by
  unfold G21 at he
  split at he
  · rw [e21]; exact he
  · cases he⟩
def G24 : FK → FunA := fun F args h => match args with
  | [] => F24 F h
  | _ => none
theorem g24 : TP 24 G24 := ⟨Go.Proofs.Tryz.f24, by kernel_rfl, fun F args h r he => by
  unfold G24 at he
  split at he
  · rw [e24]; exact he
  · cases he⟩
def G25 : FK → FunA := fun F args h => match args with
  | [a0, a1, a2, a3, a4] => F25 F a0 a1 a2 a3 a4 h
  | _ => none
theorem g25 : TP 25 G25 := ⟨Go.Proofs.Tryz.f25, by kernel_rfl, fun F args h r he => by
  unfold G25 at he
  split at he
  · rw [e25]; exact he
  · cases he⟩
def G26 : FK → FunA := fun F args h => match args with
  | [a0, a1] => F26 F a0 a1 h
  | _ => none
theorem g26 : TP 26 G26 := ⟨Go.Proofs.Tryz.f26, by kernel_rfl, fun F args h r he => by
  unfold G26 at he
  split at he
  · rw [e26]; exact he
  · cases he⟩
def G27 : FK → FunA := fun F args h => match args with
  | [a0, a1, a2] => F27 F a0 a1 a2 h
  | _ => none
theorem g27 : TP 27 G27 := ⟨Go.Proofs.Tryz.f27, by kernel_rfl, fun F args h r he => by
  unfold G27 at he
  split at he
  · rw [e27]; exact he
  · cases he⟩
def G28 : FK → FunA := fun F args h => match args with
  | [a0] => F28 F a0 h
  | _ => none
theorem g28 : TP 28 G28 := ⟨Go.Proofs.Tryz.f28, by kernel_rfl, fun F args h r he => by
  unfold G28 at he
  split at he
  · rw [e28]; exact he
  · cases he⟩
def G29 : FK → FunA := fun F args h => match args with
  | [a0, a1, a2, a3] => F29 F a0 a1 a2 a3 h
  | _ => none
theorem g29 : TP 29 G29 := ⟨Go.Proofs.Tryz.f29, by kernel_rfl, fun F args h r he => by
  unfold G29 at he
  split at he
  · rw [e29]; exact he
  · cases he⟩
def G30 : FK → FunA := fun F args h => match args with
  | [a0, a1, a2, a3] => F30 F a0 a1 a2 a3 h
  | _ => none
theorem g30 : TP 30 G30 := ⟨Go.Proofs.Tryz.f30, by kernel_rfl, fun F args h r he => by
  unfold G30 at he
  split at he
  · rw [e30]; exact he
  · cases he⟩
def G31 : FK → FunA := fun F args h => match args with
  | [a0, a1] => F31 F a0 a1 h
  | _ => none
theorem g31 : TP 31 G31 := ⟨Go.Proofs.Tryz.f31, by kernel_rfl, fun F args h r he => by
  unfold G31 at he
  split at he
  · rw [e31]; exact he
  · cases he⟩
def G32 : FK → FunA := fun F args h => match args with
  | [a0, a1, a2, a3] => F32 F a0 a1 a2 a3 h
  | _ => none
theorem g32 : TP 32 G32 := ⟨Go.Proofs.Tryz.f32, by kernel_rfl, fun F args h r he => by
  unfold G32 at he
  split at he
  · rw [e32]; exact he
  · cases he⟩
def G33 : FK → FunA := fun F args h => match args with
  | [a0] => F33 F a0 h
  | _ => none
theorem g33 : TP 33 G33 := ⟨Go.Proofs.Tryz.f33, by kernel_rfl, fun F args h r he => by
  unfold G33 at he
  split at he
  · rw [e33]; exact he
  · cases he⟩
def G34 : FK → FunA := fun F args h => match args with
  | [a0, a1, a2, a3, a4, a5] => F34 F a0 a1 a2 a3 a4 a5 h
  | _ => none
theorem g34 : TP 34 G34 := ⟨Go.Proofs.Tryz.f34, by kernel_rfl, fun F args h r he => by
  unfold G34 at he
  split at he
  · rw [e34]; exact he
  · cases he⟩
def G35 : FK → FunA := fun F args h => match args with
  | [a0, a1, a2, a3] => F35 F a0 a1 a2 a3 h
  | _ => none
theorem g35 : TP 35 G35 := ⟨Go.Proofs.Tryz.f35, by kernel_rfl, fun F args h r he => by
  unfold G35 at he
  split at he
  · rw [e35]; exact he
  · cases he⟩
def G36 : FK → FunA := fun F args h => match args with
  | [a0, a1] => F36 F a0 a1 h
  | _ => none
theorem g36 : TP 36 G36 := ⟨Go.Proofs.Tryz.f36, by kernel_rfl, fun F args h r he => by
  unfold G36 at he
  split at he
  · rw [e36]; exact he
  · cases he⟩
def G42 : FK → FunA := fun F args h => match args with
  | [a0] => F42 F a0 h
  | _ => none
theorem g42 : TP 42 G42 := ⟨Go.Proofs.Tryz.f42, by kernel_rfl, fun F args h r he => by
  unfold G42 at he
  split at he
  · rw [e42]; exact he
  · cases he⟩
def G43 : FK → FunA := fun F args h => match args with
  | [a0] => F43 F a0 h
  | _ => none
theorem g43 : TP 43 G43 := ⟨Go.Proofs.Tryz.f43, by kernel_rfl, fun F args h r he => by
  unfold G43 at he
  split at he
  · rw [e43]; exact he
  · cases he⟩
def G44 : FK → FunA := fun F args h => match args with
  | [a0, a1, a2] => F44 F a0 a1 a2 h
  | _ => none
theorem g44 : TP 44 G44 := ⟨Go.Proofs.Tryz.f44, by kernel_rfl, fun F args h r he => by
  unfold G44 at he
  split at he
  · rw [e44]; exact he
  · cases he⟩
def G45 : FK → FunA := fun F args h => match args with
  | [a0, a1, a2] => F45 F a0 a1 a2 h
  | _ => none
theorem g45 : TP 45 G45 := ⟨Go.Proofs.Tryz.f45, by kernel_rfl, fun F args h r he => by
  unfold G45 at he
  split at he
  · rw [e45]; exact he
  · cases he⟩
def G49 : FK → FunA := fun F args h => match args with
  | [a0] => F49 F a0 h
  | _ => none
theorem g49 : TP 49 G49 := ⟨Go.Proofs.Tryz.f49, by kernel_rfl, fun F args h r he => by
  unfold G49 at he
  split at he
  · rw [e49]; exact he
  · cases he⟩
def G50 : FK → FunA := fun F args h => match args with
  | [a0, a1, a2] => F50 F a0 a1 a2 h
  | _ => none
theorem g50 : TP 50 G50 := ⟨Go.Proofs.Tryz.f50, by kernel_rfl, fun F args h r he => by
  unfold G50 at he
  split at he
  · rw [e50]; exact he
  · cases he⟩
def G51 : FK → FunA := fun F args h => match args with
  | [a0] => F51 F a0 h
  | _ => none
theorem g51 : TP 51 G51 := ⟨Go.Proofs.Tryz.f51, by kernel_rfl, fun F args h r he => by
  unfold G51 at he
  split at he
  · rw [e51]; exact he
  · cases he⟩
def G65 : FK → FunA := fun F args h => match args with
  | [a0, a1, a2] => F65 F a0 a1 a2 h
  | _ => none
theorem g65 : TP 65 G65 := ⟨Go.Proofs.Tryz.f65, by kernel_rfl, fun F args h r he => by
  unfold G65 at he
  split at he
  · rw [e65]; exact he
  · cases he⟩
def G66 : FK → FunA := fun F args h => match args with
  | [a0] => F66 F a0 h
  | _ => none
theorem g66 : TP 66 G66 := ⟨Go.Proofs.Tryz.f66, by kernel_rfl, fun F args h r he => by
  unfold G66 at he
  split at he
  · rw [e66]; exact he
  · cases he⟩
def G67 : FK → FunA := fun F args h => match args with
  | [a0] => F67 F a0 h
  | _ => none
theorem g67 : TP 67 G67 := ⟨Go.Proofs.Tryz.f67, by kernel_rfl, fun F args h r he => by
  unfold G67 at he
  split at he
  · rw [e67]; exact he
  · cases he⟩
def G68 : FK → FunA := fun F args h => match args with
  | [a0, a1] => F68 F a0 a1 h
  | _ => none
theorem g68 : TP 68 G68 := ⟨Go.Proofs.Tryz.f68, by kernel_rfl, fun F args h r he => by
  unfold G68 at he
  split at he
  · rw [e68]; exact he
  · cases he⟩
def G69 : FK → FunA := fun F args h => match args with
  | [a0, a1] => F69 F a0 a1 h
  | _ => none
theorem g69 : TP 69 G69 := ⟨Go.Proofs.Tryz.f69, by kernel_rfl, fun F args h r he => by
  unfold G69 at he
  split at he
  · rw [e69]; exact he
  · cases he⟩
def G70 : FK → FunA := fun F args h => match args with
  | [a0, a1, a2] => F70 F a0 a1 a2 h
  | _ => none
theorem g70 : TP 70 G70 := ⟨Go.Proofs.Tryz.f70, by kernel_rfl, fun F args h r he => by
  unfold G70 at he
  split at he
  · rw [e70]; exact he
  · cases he⟩
def G71 : FK → FunA := fun F args h => match args with
  | [a0, a1] => F71 F a0 a1 h
  | _ => none
theorem g71 : TP 71 G71 := ⟨Go.Proofs.Tryz.f71, by kernel_rfl, fun F args h r he => by
  unfold G71 at he
  split at he
  · rw [e71]; exact he
  · cases he⟩
def G72 : FK → FunA := fun F args h => match args with
  | [a0] => F72 F a0 h
  | _ => none
theorem g72 : TP 72 G72 := ⟨Go.Proofs.Tryz.f72, by kernel_rfl, fun F args h r he => by
  unfold G72 at he
  split at he
  · rw [e72]; exact he
  · cases he⟩
def G73 : FK → FunA := fun F args h => match args with
  | [a0] => F73 F a0 h
  | _ => none
theorem g73 : TP 73 G73 := ⟨Go.Proofs.Tryz.f73, by kernel_rfl, fun F args h r he => by
  unfold G73 at he
  split at he
  · rw [e73]; exact he
  · cases he⟩
def G74 : FK → FunA := fun F args h => match args with
  | [a0, a1] => F74 F a0 a1 h
  | _ => none
theorem g74 : TP 74 G74 := ⟨Go.Proofs.Tryz.f74, by kernel_rfl, fun F args h r he => by
  unfold G74 at he
  split at he
  · rw [e74]; exact he
  · cases he⟩
def G75 : FK → FunA := fun F args h => match args with
  | [a0] => F75 F a0 h
  | _ => none
theorem g75 : TP 75 G75 := ⟨Go.Proofs.Tryz.f75, by kernel_rfl, fun F args h r he => by
  unfold G75 at he
  split at he
  · rw [e75]; exact he
  · cases he⟩
def G79 : FK → FunA := fun F args h => match args with
  | [a0] => F79 F a0 h
  | _ => none
theorem g79 : TP 79 G79 := ⟨Go.Proofs.Tryz.f79, by kernel_rfl, fun F args h r he => by
  unfold G79 at he
  split at he
  · rw [e79]; exact he
  · cases he⟩
def G80 : FK → FunA := fun F args h => match args with
  | [a0] => F80 F a0 h
  | _ => none
theorem g80 : TP 80 G80 := ⟨Go.Proofs.Tryz.f80, by kernel_rfl, fun F args h r he => by
  unfold G80 at he
  split at he
  · rw [e80]; exact he
  · cases he⟩
def G81 : FK → FunA := fun F args h => match args with
  | [a0, a1, a2] => F81 F a0 a1 a2 h
  | _ => none
theorem g81 : TP 81 G81 := ⟨Go.Proofs.Tryz.f81, by kernel_rfl, fun F args h r he => by
  unfold G81 at he
  split at he
  · rw [e81]; exact he
  · cases he⟩
def G82 : FK → FunA := fun F args h => match args with
  | [a0, a1, a2] => F82 F a0 a1 a2 h
  | _ => none
theorem g82 : TP 82 G82 := ⟨Go.Proofs.Tryz.f82, by kernel_rfl, fun F args h r he => by
  unfold G82 at he
  split at he
  · rw [e82]; exact he
  · cases he⟩
def G83 : FK → FunA := fun F args h => match args with
  | [a0, a1, a2] => F83 F a0 a1 a2 h
  | _ => none
theorem g83 : TP 83 G83 := ⟨Go.Proofs.Tryz.f83, by kernel_rfl, fun F args h r he => by
  unfold G83 at he
  split at he
  · rw [e83]; exact he
  · cases he⟩
def G84 : FK → FunA := fun F args h => match args with
  | [a0] => F84 F a0 h
  | _ => none
theorem g84 : TP 84 G84 := ⟨Go.Proofs.Tryz.f84, by kernel_rfl, fun F args h r he => by
  unfold G84 at he
  split at he
  · rw [e84]; exact he
  · cases he⟩
def G85 : FK → FunA := fun F args h => match args with
  | [a0] => F85 F a0 h
  | _ => none
theorem g85 : TP 85 G85 := ⟨Go.Proofs.Tryz.f85, by kernel_rfl, fun F args h r he => by
  unfold G85 at he
  split at he
  · rw [e85]; exact he
  · cases he⟩
def G86 : FK → FunA := fun F args h => match args with
  | [a0] => F86 F a0 h
  | _ => none
theorem g86 : TP 86 G86 := ⟨Go.Proofs.Tryz.f86, by kernel_rfl, fun F args h r he => by
  unfold G86 at he
  split at he
  · rw [e86]; exact he
  · cases he⟩
def G87 : FK → FunA := fun F args h => match args with
  | [a0, a1, a2] => F87 F a0 a1 a2 h
  | _ => none
theorem g87 : TP 87 G87 := ⟨Go.Proofs.Tryz.f87, by kernel_rfl, fun F args h r he => by
  unfold G87 at he
  split at he
  · rw [e87]; exact he
  · cases he⟩
def G88 : FK → FunA := fun F args h => match args with
  | [a0, a1] => F88 F a0 a1 h
  | _ => none
theorem g88 : TP 88 G88 := ⟨Go.Proofs.Tryz.f88, by kernel_rfl, fun F args h r he => by
  unfold G88 at he
  split at he
  · rw [e88]; exact he
  · cases he⟩
def G89 : FK → FunA := fun F args h => match args with
  | [a0, a1] => F89 F a0 a1 h
  | _ => none
theorem g89 : TP 89 G89 := ⟨Go.Proofs.Tryz.f89, by kernel_rfl, fun F args h r he => by
  unfold G89 at he
  split at he
  · rw [e89]; exact he
  · cases he⟩
def G90 : FK → FunA := fun F args h => match args with
  | [a0, a1] => F90 F a0 a1 h
  | _ => none
theorem g90 : TP 90 G90 := ⟨Go.Proofs.Tryz.f90, by kernel_rfl, fun F args h r he => by
  unfold G90 at he
  split at he
  · rw [e90]; exact he
  · cases he⟩
def G91 : FK → FunA := fun F args h => match args with
  | [a0, a1, a2] => F91 F a0 a1 a2 h
  | _ => none
theorem g91 : TP 91 G91 := ⟨Go.Proofs.Tryz.f91, by kernel_rfl, fun F args h r he => by
  unfold G91 at he
  split at he
  · rw [e91]; exact he
  · cases he⟩
def G92 : FK → FunA := fun F args h => match args with
  | [a0, a1, a2, a3] => F92 F a0 a1 a2 a3 h
  | _ => none
theorem g92 : TP 92 G92 := ⟨Go.Proofs.Tryz.f92, by kernel_rfl, fun F args h r he => by
  unfold G92 at he
  split at he
  · rw [e92]; exact he
  · cases he⟩
def G93 : FK → FunA := fun F args h => match args with
  | [a0, a1] => F93 F a0 a1 h
  | _ => none
theorem g93 : TP 93 G93 := ⟨Go.Proofs.Tryz.f93, by kernel_rfl, fun F args h r he => by
  unfold G93 at he
  split at he
  · rw [e93]; exact he
  · cases he⟩
def G94 : FK → FunA := fun F args h => match args with
  | [a0, a1, a2] => F94 F a0 a1 a2 h
  | _ => none
theorem g94 : TP 94 G94 := ⟨Go.Proofs.Tryz.f94, by kernel_rfl, fun F args h r he => by
  unfold G94 at he
  split at he
  · rw [e94]; exact he
  · cases he⟩
def G95 : FK → FunA := fun F args h => match args with
  | [a0, a1] => F95 F a0 a1 h
  | _ => none
theorem g95 : TP 95 G95 := ⟨Go.Proofs.Tryz.f95, by kernel_rfl, fun F args h r he => by
  unfold G95 at he
  split at he
  · rw [e95]; exact he
  · cases he⟩
def G96 : FK → FunA := fun F args h => match args with
  | [a0, a1, a2, a3] => F96 F a0 a1 a2 a3 h
  | _ => none
theorem g96 : TP 96 G96 := ⟨Go.Proofs.Tryz.f96, by kernel_rfl, fun F args h r he => by
  unfold G96 at he
  split at he
  · rw [e96]; exact he
  · cases he⟩
def G97 : FK → FunA := fun F args h => match args with
  | [a0] => F97 F a0 h
  | _ => none
theorem g97 : TP 97 G97 := ⟨Go.Proofs.Tryz.f97, by kernel_rfl, fun F args h r he => by
  unfold G97 at he
  split at he
  · rw [e97]; exact he
  · cases he⟩
def G98 : FK → FunA := fun F args h => match args with
  | [a0, a1] => F98 F a0 a1 h
  | _ => none
theorem g98 : TP 98 G98 := ⟨Go.Proofs.Tryz.f98, by kernel_rfl, fun F args h r he => by
  unfold G98 at he
  split at he
  · rw [e98]; exact he
  · cases he⟩
def G99 : FK → FunA := fun F args h => match args with
  | [a0, a1, a2, a3] => F99 F a0 a1 a2 a3 h
  | _ => none
theorem g99 : TP 99 G99 := ⟨Go.Proofs.Tryz.f99, by kernel_rfl, fun F args h r he => by
  unfold G99 at he
  split at he
  · rw [e99]; exact he
  · cases he⟩
def G100 : FK → FunA := fun F args h => match args with
  | [a0] => F100 F a0 h
  | _ => none
theorem g100 : TP 100 G100 := ⟨Go.Proofs.Tryz.f100, by kernel_rfl, fun F args h r he => by
  unfold G100 at he
  split at he
  · rw [e100]; exact he
  · cases he⟩
def G101 : FK → FunA := fun F args h => match args with
  | [a0, a1, a2, a3] => F101 F a0 a1 a2 a3 h
  | _ => none
theorem g101 : TP 101 G101 := ⟨Go.Proofs.Tryz.f101, by kernel_rfl, fun F args h r he => by
  unfold G101 at he
  split at he
  · rw [e101]; exact he
  · cases he⟩
def G109 : FK → FunA := fun F args h => match args with
  | [a0] => F109 F a0 h
  | _ => none
theorem g109 : TP 109 G109 := ⟨Go.Proofs.Tryz.f109, by kernel_rfl, fun F args h r he => by
  unfold G109 at he
  split at he
  · rw [e109]; exact he
  · cases he⟩
def G110 : FK → FunA := fun F args h => match args with
  | [a0] => F110 F a0 h
  | _ => none
theorem g110 : TP 110 G110 := ⟨Go.Proofs.Tryz.f110, by kernel_rfl, fun F args h r he => by
  unfold G110 at he
  split at he
  · rw [e110]; exact he
  · cases he⟩
def G111 : FK → FunA := fun F args h => match args with
  | [a0, a1, a2] => F111 F a0 a1 a2 h
  | _ => none
theorem g111 : TP 111 G111 := ⟨Go.Proofs.Tryz.f111, by kernel_rfl, fun F args h r he => by
  unfold G111 at he
  split at he
  · rw [e111]; exact he
  · cases he⟩
def G112 : FK → FunA := fun F args h => match args with
  | [a0] => F112 F a0 h
  | _ => none
theorem g112 : TP 112 G112 := ⟨Go.Proofs.Tryz.f112, by kernel_rfl, fun F args h r he => by
  unfold G112 at he
  split at he
  · rw [e112]; exact he
  · cases he⟩
def G113 : FK → FunA := fun F args h => match args with
  | [a0, a1, a2] => F113 F a0 a1 a2 h
  | _ => none
theorem g113 : TP 113 G113 := ⟨Go.Proofs.Tryz.f113, by kernel_rfl, fun F args h r he => by
  unfold G113 at he
  split at he
  · rw [e113]; exact he
  · cases he⟩
def G135 : FK → FunA := fun F args h => match args with
  | [a0, a1] => F135 F a0 a1 h
  | _ => none
theorem g135 : TP 135 G135 := ⟨Go.Proofs.Tryz.f135, by kernel_rfl, fun F args h r he => by
  unfold G135 at he
  split at he
  · rw [e135]; exact he
  · cases he⟩
def G136 : FK → FunA := fun F args h => match args with
  | [a0, a1, a2, a3] => F136 F a0 a1 a2 a3 h
  | _ => none
theorem g136 : TP 136 G136 := ⟨Go.Proofs.Tryz.f136, by kernel_rfl, fun F args h r he => by
  unfold G136 at he
  split at he
  · rw [e136]; exact he
  · cases he⟩
def G137 : FK → FunA := fun F args h => match args with
  | [a0] => F137 F a0 h
  | _ => none
theorem g137 : TP 137 G137 := ⟨Go.Proofs.Tryz.f137, by kernel_rfl, fun F args h r he => by
  unfold G137 at he
  split at he
  · rw [e137]; exact he
  · cases he⟩
def G138 : FK → FunA := fun F args h => match args with
  | [a0] => F138 F a0 h
  | _ => none
theorem g138 : TP 138 G138 := ⟨Go.Proofs.Tryz.f138, by kernel_rfl, fun F args h r he => by
  unfold G138 at he
  split at he
  · rw [e138]; exact he
  · cases he⟩
def G139 : FK → FunA := fun F args h => match args with
  | [a0] => F139 F a0 h
  | _ => none
theorem g139 : TP 139 G139 := ⟨Go.Proofs.Tryz.f139, by kernel_rfl, fun F args h r he => by
  unfold G139 at he
  split at he
  · rw [e139]; exact he
  · cases he⟩
def G140 : FK → FunA := fun F args h => match args with
  | [a0, a1] => F140 F a0 a1 h
  | _ => none
theorem g140 : TP 140 G140 := ⟨Go.Proofs.Tryz.f140, by kernel_rfl, fun F args h r he => by
  unfold G140 at he
  split at he
  · rw [e140]; exact he
  · cases he⟩
def G141 : FK → FunA := fun F args h => match args with
  | [a0] => F141 F a0 h
  | _ => none
theorem g141 : TP 141 G141 := ⟨Go.Proofs.Tryz.f141, by kernel_rfl, fun F args h r he => by
  unfold G141 at he
  split at he
  · rw [e141]; exact he
  · cases he⟩
def G142 : FK → FunA := fun F args h => match args with
  | [a0] => F142 F a0 h
  | _ => none
theorem g142 : TP 142 G142 := ⟨Go.Proofs.Tryz.f142, by kernel_rfl, fun F args h r he => by
  unfold G142 at he
  split at he
  · rw [e142]; exact he
  · cases he⟩
def G143 : FK → FunA := fun F args h => match args with
  | [a0] => F143 F a0 h
  | _ => none
theorem g143 : TP 143 G143 := ⟨Go.Proofs.Tryz.f143, by kernel_rfl, fun F args h r he => by
  unfold G143 at he
  split at he
  · rw [e143]; exact he
  · cases he⟩
def G144 : FK → FunA := fun F args h => match args with
  | [a0] => F144 F a0 h
  | _ => none
theorem g144 : TP 144 G144 := ⟨Go.Proofs.Tryz.f144, by kernel_rfl, fun F args h r he => by
  unfold G144 at he
  split at he
  · rw [e144]; exact he
  · cases he⟩
def G145 : FK → FunA := fun F args h => match args with
  | [a0] => F145 F a0 h
  | _ => none
theorem g145 : TP 145 G145 := ⟨Go.Proofs.Tryz.f145, by kernel_rfl, fun F args h r he => by
  unfold G145 at he
  split at he
  · rw [e145]; exact he
  · cases he⟩
def G146 : FK → FunA := fun F args h => match args with
  | [a0] => F146 F a0 h
  | _ => none
theorem g146 : TP 146 G146 := ⟨Go.Proofs.Tryz.f146, by kernel_rfl, fun F args h r he => by
  unfold G146 at he
  split at he
  · rw [e146]; exact he
  · cases he⟩
def G147 : FK → FunA := fun F args h => match args with
  | [a0, a1, a2] => F147 F a0 a1 a2 h
  | _ => none
theorem g147 : TP 147 G147 := ⟨Go.Proofs.Tryz.f147, by kernel_rfl, fun F args h r he => by
  unfold G147 at he
  split at he
  · rw [e147]; exact he
  · cases he⟩
def G148 : FK → FunA := fun F args h => match args with
  | [a0, a1] => F148 F a0 a1 h
  | _ => none
theorem g148 : TP 148 G148 := ⟨Go.Proofs.Tryz.f148, by kernel_rfl, fun F args h r he => by
  unfold G148 at he
  split at he
  · rw [e148]; exact he
  · cases he⟩
def G149 : FK → FunA := fun F args h => match args with
  | [a0, a1] => F149 F a0 a1 h
  | _ => none
theorem g149 : TP 149 G149 := ⟨Go.Proofs.Tryz.f149, by kernel_rfl, fun F args h r he => by
  unfold G149 at he
  split at he
  · rw [e149]; exact he
  · cases he⟩
def G150 : FK → FunA := fun F args h => match args with
  | [a0] => F150 F a0 h
  | _ => none
theorem g150 : TP 150 G150 := ⟨Go.Proofs.Tryz.f150, by kernel_rfl, fun F args h r he => by
  unfold G150 at he
  split at he
  · rw [e150]; exact he
  · cases he⟩
def G157 : FK → FunA := fun F args h => match args with
  | [a0, a1] => F157 F a0 a1 h
  | _ => none
theorem g157 : TP 157 G157 := ⟨Go.Proofs.Tryz.f157, by kernel_rfl, fun F args h r he => by
  unfold G157 at he
  split at he
  · rw [e157]; exact he
  · cases he⟩
def G158 : FK → FunA := fun F args h => match args with
  | [a0] => F158 F a0 h
  | _ => none
theorem g158 : TP 158 G158 := ⟨Go.Proofs.Tryz.f158, by kernel_rfl, fun F args h r he => by
  unfold G158 at he
  split at he
  · rw [e158]; exact he
  · cases he⟩
def G159 : FK → FunA := fun F args h => match args with
  | [a0] => F159 F a0 h
  | _ => none
theorem g159 : TP 159 G159 := ⟨Go.Proofs.Tryz.f159, by kernel_rfl, fun F args h r he => by
  unfold G159 at he
  split at he
  · rw [e159]; exact he
  · cases he⟩
def G160 : FK → FunA := fun F args h => match args with
  | [] => F160 F h
  | _ => none
theorem g160 : TP 160 G160 := ⟨Go.Proofs.Tryz.f160, by kernel_rfl, fun F args h r he => by
  unfold G160 at he
  split at he
  · rw [e160]; exact he
  · cases he⟩
def G161 : FK → FunA := fun F args h => match args with
  | [a0, a1, a2] => F161 F a0 a1 a2 h
  | _ => none
theorem g161 : TP 161 G161 := ⟨Go.Proofs.Tryz.f161, by kernel_rfl, fun F args h r he => by
  unfold G161 at he
  split at he
  · rw [e161]; exact he
  · cases he⟩
def G162 : FK → FunA := fun F args h => match args with
  | [a0] => F162 F a0 h
  | _ => none
theorem g162 : TP 162 G162 := ⟨Go.Proofs.Tryz.f162, by kernel_rfl, fun F args h r he => by
  unfold G162 at he
  split at he
  · rw [e162]; exact he
  · cases he⟩
def G163 : FK → FunA := fun F args h => match args with
  | [a0, a1] => F163 F a0 a1 h
  | _ => none
theorem g163 : TP 163 G163 := ⟨Go.Proofs.Tryz.f163, by kernel_rfl, fun F args h r he => by
  unfold G163 at he
  split at he
  · rw [e163]; exact he
  · cases he⟩
def G164 : FK → FunA := fun F args h => match args with
  | [a0] => F164 F a0 h
  | _ => none
theorem g164 : TP 164 G164 := ⟨Go.Proofs.Tryz.f164, by kernel_rfl, fun F args h r he => by
  unfold G164 at he
  split at he
  · rw [e164]; exact he
  · cases he⟩
def G165 : FK → FunA := fun F args h => match args with
  | [a0] => F165 F a0 h
  | _ => none
theorem g165 : TP 165 G165 := ⟨Go.Proofs.Tryz.f165, by kernel_rfl, fun F args h r he => by
  unfold G165 at he
  split at he
  · rw [e165]; exact he
  · cases he⟩
def G166 : FK → FunA := fun F args h => match args with
  | [a0] => F166 F a0 h
  | _ => none
theorem g166 : TP 166 G166 := ⟨Go.Proofs.Tryz.f166, by kernel_rfl, fun F args h r he => by
  unfold G166 at he
  split at he
  · rw [e166]; exact he
  · cases he⟩
def G167 : FK → FunA := fun F args h => match args with
  | [a0, a1] => F167 F a0 a1 h
  | _ => none
theorem g167 : TP 167 G167 := ⟨Go.Proofs.Tryz.f167, by kernel_rfl, fun F args h r he => by
  unfold G167 at he
  split at he
  · rw [e167]; exact he
  · cases he⟩
def G168 : FK → FunA := fun F args h => match args with
  | [a0, a1] => F168 F a0 a1 h
  | _ => none
theorem g168 : TP 168 G168 := ⟨Go.Proofs.Tryz.f168, by kernel_rfl, fun F args h r he => by
  unfold G168 at he
  split at he
  · rw [e168]; exact he
  · cases he⟩
def G169 : FK → FunA := fun F args h => match args with
  | [a0, a1] => F169 F a0 a1 h
  | _ => none
theorem g169 : TP 169 G169 := ⟨Go.Proofs.Tryz.f169, by kernel_rfl, fun F args h r he => by
  unfold G169 at he
  split at he
  · rw [e169]; exact he
  · cases he⟩
def G170 : FK → FunA := fun F args h => match args with
  | [a0, a1] => F170 F a0 a1 h
  | _ => none
theorem g170 : TP 170 G170 := ⟨Go.Proofs.Tryz.f170, by kernel_rfl, fun F args h r he => by
  unfold G170 at he
  split at he
  · rw [e170]; exact he
  · cases he⟩
def G171 : FK → FunA := fun F args h => match args with
  | [a0, a1] => F171 F a0 a1 h
  | _ => none
theorem g171 : TP 171 G171 := ⟨Go.Proofs.Tryz.f171, by kernel_rfl, fun F args h r he => by
  unfold G171 at he
  split at he
  · rw [e171]; exact he
  · cases he⟩
def G172 : FK → FunA := fun F args h => match args with
  | [a0, a1] => F172 F a0 a1 h
  | _ => none
theorem g172 : TP 172 G172 := ⟨Go.Proofs.Tryz.f172, by kernel_rfl, fun F args h r he => by
  unfold G172 at he
  split at he
  · rw [e172]; exact he
  · cases he⟩
def G173 : FK → FunA := fun F args h => match args with
  | [a0, a1] => F173 F a0 a1 h
  | _ => none
theorem g173 : TP 173 G173 := ⟨Go.Proofs.Tryz.f173, by kernel_rfl, fun F args h r he => by
  unfold G173 at he
  split at he
  · rw [e173]; exact he
  · cases he⟩
def G174 : FK → FunA := fun F args h => match args with
  | [a0, a1] => F174 F a0 a1 h
  | _ => none
theorem g174 : TP 174 G174 := ⟨Go.Proofs.Tryz.f174, by kernel_rfl, fun F args h r he => by
  unfold G174 at he
  split at he
  · rw [e174]; exact he
  · cases he⟩
def G175 : FK → FunA := fun F args h => match args with
  | [a0] => F175 F a0 h
  | _ => none
theorem g175 : TP 175 G175 := ⟨Go.Proofs.Tryz.f175, by kernel_rfl, fun F args h r he => by
  unfold G175 at he
  split at he
  · rw [e175]; exact he
  · cases he⟩
def G176 : FK → FunA := fun F args h => match args with
  | [a0, a1, a2] => F176 F a0 a1 a2 h
  | _ => none
theorem g176 : TP 176 G176 := ⟨Go.Proofs.Tryz.f176, by kernel_rfl, fun F args h r he => by
  unfold G176 at he
  split at he
  · rw [e176]; exact he
  · cases he⟩
def G177 : FK → FunA := fun F args h => match args with
  | [a0] => F177 F a0 h
  | _ => none
theorem g177 : TP 177 G177 := ⟨Go.Proofs.Tryz.f177, by kernel_rfl, fun F args h r he => by
  unfold G177 at he
  split at he
  · rw [e177]; exact he
  · cases he⟩
def G178 : FK → FunA := fun F args h => match args with
  | [a0] => F178 F a0 h
  | _ => none
theorem g178 : TP 178 G178 := ⟨Go.Proofs.Tryz.f178, by kernel_rfl, fun F args h r he => by
  unfold G178 at he
  split at he
  · rw [e178]; exact he
  · cases he⟩
def G179 : FK → FunA := fun F args h => match args with
  | [a0, a1] => F179 F a0 a1 h
  | _ => none
theorem g179 : TP 179 G179 := ⟨Go.Proofs.Tryz.f179, by kernel_rfl, fun F args h r he => by
  unfold G179 at he
  split at he
  · rw [e179]; exact he
  · cases he⟩
def G181 : FK → FunA := fun F args h => match args with
  | [a0, a1] => F181 F a0 a1 h
  | _ => none
theorem g181 : TP 181 G181 := ⟨Go.Proofs.Tryz.f181, by kernel_rfl, fun F args h r he => by
  unfold G181 at he
  split at he
  · rw [e181]; exact he
  · cases he⟩
def G182 : FK → FunA := fun F args h => match args with
  | [a0, a1] => F182 F a0 a1 h
  | _ => none
theorem g182 : TP 182 G182 := ⟨Go.Proofs.Tryz.f182, by kernel_rfl, fun F args h r he => by
  unfold G182 at he
  split at he
  · rw [e182]; exact he
  · cases he⟩
def G183 : FK → FunA := fun F args h => match args with
  | [a0] => F183 F a0 h
  | _ => none
theorem g183 : TP 183 G183 := ⟨Go.Proofs.Tryz.f183, by kernel_rfl, fun F args h r he => by
  unfold G183 at he
  split at he
  · rw [e183]; exact he
  · cases he⟩
def G184 : FK → FunA := fun F args h => match args with
  | [a0, a1, a2] => F184 F a0 a1 a2 h
  | _ => none
theorem g184 : TP 184 G184 := ⟨Go.Proofs.Tryz.f184, by kernel_rfl, fun F args h r he => by
  unfold G184 at he
  split at he
  · rw [e184]; exact he
  · cases he⟩
def G185 : FK → FunA := fun F args h => match args with
  | [a0, a1, a2] => F185 F a0 a1 a2 h
  | _ => none
theorem g185 : TP 185 G185 := ⟨Go.Proofs.Tryz.f185, by kernel_rfl, fun F args h r he => by
  unfold G185 at he
  split at he
  · rw [e185]; exact he
  · cases he⟩
def G186 : FK → FunA := fun F args h => match args with
  | [a0] => F186 F a0 h
  | _ => none
theorem g186 : TP 186 G186 := ⟨Go.Proofs.Tryz.f186, by kernel_rfl, fun F args h r he => by
  unfold G186 at he
  split at he
  · rw [e186]; exact he
  · cases he⟩
def G200 : FK → FunA := fun F args h => match args with
  | [a0] => F200 F a0 h
  | _ => none
theorem g200 : TP 200 G200 := ⟨Go.Proofs.Tryz.f200, by kernel_rfl, fun F args h r he => by
  unfold G200 at he
  split at he
  · rw [e200]; exact he
  · cases he⟩
def G201 : FK → FunA := fun F args h => match args with
  | [a0, a1] => F201 F a0 a1 h
  | _ => none
theorem g201 : TP 201 G201 := ⟨Go.Proofs.Tryz.f201, by kernel_rfl, fun F args h r he => by
  unfold G201 at he
  split at he
  · rw [e201]; exact he
  · cases he⟩
def G202 : FK → FunA := fun F args h => match args with
  | [a0] => F202 F a0 h
  | _ => none
theorem g202 : TP 202 G202 := ⟨Go.Proofs.Tryz.f202, by kernel_rfl, fun F args h r he => by
  unfold G202 at he
  split at he
  · rw [e202]; exact he
  · cases he⟩
def G203 : FK → FunA := fun F args h => match args with
  | [a0, a1] => F203 F a0 a1 h
  | _ => none
theorem g203 : TP 203 G203 := ⟨Go.Proofs.Tryz.f203, by kernel_rfl, fun F args h r he => by
  unfold G203 at he
  split at he
  · rw [e203]; exact he
  · cases he⟩
def G204 : FK → FunA := fun F args h => match args with
  | [a0, a1, a2, a3] => F204 F a0 a1 a2 a3 h
  | _ => none
theorem g204 : TP 204 G204 := ⟨Go.Proofs.Tryz.f204, by kernel_rfl, fun F args h r he => by
  unfold G204 at he
  split at he
  · rw [e204]; exact he
  · cases he⟩
def G205 : FK → FunA := fun F args h => match args with
  | [a0, a1, a2] => F205 F a0 a1 a2 h
  | _ => none
theorem g205 : TP 205 G205 := ⟨Go.Proofs.Tryz.f205, by kernel_rfl, fun F args h r he => by
  unfold G205 at he
  split at he
  · rw [e205]; exact he
  · cases he⟩
def G207 : FK → FunA := fun F args h => match args with
  | [a0] => F207 F a0 h
  | _ => none
theorem g207 : TP 207 G207 := ⟨Go.Proofs.Tryz.f207, by kernel_rfl, fun F args h r he => by
  unfold G207 at he
  split at he
  · rw [e207]; exact he
  · cases he⟩
def G208 : FK → FunA := fun F args h => match args with
  | [a0] => F208 F a0 h
  | _ => none
theorem g208 : TP 208 G208 := ⟨Go.Proofs.Tryz.f208, by kernel_rfl, fun F args h r he => by
  unfold G208 at he
  split at he
  · rw [e208]; exact he
  · cases he⟩
def G209 : FK → FunA := fun F args h => match args with
  | [a0, a1, a2] => F209 F a0 a1 a2 h
  | _ => none
theorem g209 : TP 209 G209 := ⟨Go.Proofs.Tryz.f209, by kernel_rfl, fun F args h r he => by
  unfold G209 at he
  split at he
  · rw [e209]; exact he
  · cases he⟩
def G210 : FK → FunA := fun F args h => match args with
  | [a0, a1] => F210 F a0 a1 h
  | _ => none
theorem g210 : TP 210 G210 := ⟨Go.Proofs.Tryz.f210, by kernel_rfl, fun F args h r he => by
  unfold G210 at he
  split at he
  · rw [e210]; exact he
  · cases he⟩
def G211 : FK → FunA := fun F args h => match args with
  | [a0] => F211 F a0 h
  | _ => none
theorem g211 : TP 211 G211 := ⟨Go.Proofs.Tryz.f211, by kernel_rfl, fun F args h r he => by
  unfold G211 at he
  split at he
  · rw [e211]; exact he
  · cases he⟩
def G212 : FK → FunA := fun F args h => match args with
  | [a0, a1] => F212 F a0 a1 h
  | _ => none
theorem g212 : TP 212 G212 := ⟨Go.Proofs.Tryz.f212, by kernel_rfl, fun F args h r he => by
  unfold G212 at he
  split at he
  · rw [e212]; exact he
  · cases he⟩
def G213 : FK → FunA := fun F args h => match args with
  | [a0, a1, a2] => F213 F a0 a1 a2 h
  | _ => none
theorem g213 : TP 213 G213 := ⟨Go.Proofs.Tryz.f213, by kernel_rfl, fun F args h r he => by
  unfold G213 at he
  split at he
  · rw [e213]; exact he
  · cases he⟩
def G214 : FK → FunA := fun F args h => match args with
  | [a0] => F214 F a0 h
  | _ => none
theorem g214 : TP 214 G214 := ⟨Go.Proofs.Tryz.f214, by kernel_rfl, fun F args h r he => by
  unfold G214 at he
  split at he
  · rw [e214]; exact he
  · cases he⟩
def G215 : FK → FunA := fun F args h => match args with
  | [a0, a1, a2, a3] => F215 F a0 a1 a2 a3 h
  | _ => none
theorem g215 : TP 215 G215 := ⟨Go.Proofs.Tryz.f215, by kernel_rfl, fun F args h r he => by
  unfold G215 at he
  split at he
  · rw [e215]; exact he
  · cases he⟩
def G216 : FK → FunA := fun F args h => match args with
  | [a0, a1] => F216 F a0 a1 h
  | _ => none
theorem g216 : TP 216 G216 := ⟨Go.Proofs.Tryz.f216, by kernel_rfl, fun F args h r he => by
  unfold G216 at he
  split at he
  · rw [e216]; exact he
  · cases he⟩
def G217 : FK → FunA := fun F args h => match args with
  | [a0, a1] => F217 F a0 a1 h
  | _ => none
theorem g217 : TP 217 G217 := ⟨Go.Proofs.Tryz.f217, by kernel_rfl, fun F args h r he => by
  unfold G217 at he
  split at he
  · rw [e217]; exact he
  · cases he⟩
def G218 : FK → FunA := fun F args h => match args with
  | [a0] => F218 F a0 h
  | _ => none
theorem g218 : TP 218 G218 := ⟨Go.Proofs.Tryz.f218, by kernel_rfl, fun F args h r he => by
  unfold G218 at he
  split at he
  · rw [e218]; exact he
  · cases he⟩
def G219 : FK → FunA := fun F args h => match args with
  | [a0] => F219 F a0 h
  | _ => none
theorem g219 : TP 219 G219 := ⟨Go.Proofs.Tryz.f219, by kernel_rfl, fun F args h r he => by
  unfold G219 at he
  split at he
  · rw [e219]; exact he
  · cases he⟩
def G222 : FK → FunA := fun F args h => match args with
  | [a0, a1] => F222 F a0 a1 h
  | _ => none
theorem g222 : TP 222 G222 := ⟨Go.Proofs.Tryz.f222, by kernel_rfl, fun F args h r he => by
  unfold G222 at he
  split at he
  · rw [e222]; exact he
  · cases he⟩
def G223 : FK → FunA := fun F args h => match args with
  | [a0] => F223 F a0 h
  | _ => none
theorem g223 : TP 223 G223 := ⟨Go.Proofs.Tryz.f223, by kernel_rfl, fun F args h r he => by
  unfold G223 at he
  split at he
  · rw [e223]; exact he
  · cases he⟩
def G224 : FK → FunA := fun F args h => match args with
  | [a0, a1] => F224 F a0 a1 h
  | _ => none
theorem g224 : TP 224 G224 := ⟨Go.Proofs.Tryz.f224, by kernel_rfl, fun F args h r he => by
  unfold G224 at he
  split at he
  · rw [e224]; exact he
  · cases he⟩
def G225 : FK → FunA := fun F args h => match args with
  | [a0, a1, a2] => F225 F a0 a1 a2 h
  | _ => none
theorem g225 : TP 225 G225 := ⟨Go.Proofs.Tryz.f225, by kernel_rfl, fun F args h r he => by
  unfold G225 at he
  split at he
  · rw [e225]; exact he
  · cases he⟩
def G226 : FK → FunA := fun F args h => match args with
  | [a0, a1] => F226 F a0 a1 h
  | _ => none
theorem g226 : TP 226 G226 := ⟨Go.Proofs.Tryz.f226, by kernel_rfl, fun F args h r he => by
  unfold G226 at he
  split at he
  · rw [e226]; exact he
  · cases he⟩
def G227 : FK → FunA := fun F args h => match args with
  | [a0, a1] => F227 F a0 a1 h
  | _ => none
theorem g227 : TP 227 G227 := ⟨Go.Proofs.Tryz.f227, by kernel_rfl, fun F args h r he => by
  unfold G227 at he
  split at he
  · rw [e227]; exact he
  · cases he⟩
def G228 : FK → FunA := fun F args h => match args with
  | [a0, a1] => F228 F a0 a1 h
  | _ => none
theorem g228 : TP 228 G228 := ⟨Go.Proofs.Tryz.f228, by kernel_rfl, fun F args h r he => by
  unfold G228 at he
  split at he
  · rw [e228]; exact he
  · cases he⟩
def G229 : FK → FunA := fun F args h => match args with
  | [a0, a1, a2] => F229 F a0 a1 a2 h
  | _ => none
theorem g229 : TP 229 G229 := ⟨Go.Proofs.Tryz.f229, by kernel_rfl, fun F args h r he => by
  unfold G229 at he
  split at he
  · rw [e229]; exact he
  · cases he⟩
def G230 : FK → FunA := fun F args h => match args with
  | [a0] => F230 F a0 h
  | _ => none
theorem g230 : TP 230 G230 := ⟨Go.Proofs.Tryz.f230, by kernel_rfl, fun F args h r he => by
  unfold G230 at he
  split at he
  · rw [e230]; exact he
  · cases he⟩
def G231 : FK → FunA := fun F args h => match args with
  | [a0] => F231 F a0 h
  | _ => none
theorem g231 : TP 231 G231 := ⟨Go.Proofs.Tryz.f231, by kernel_rfl, fun F args h r he => by
  unfold G231 at he
  split at he
  · rw [e231]; exact he
  · cases he⟩
def G232 : FK → FunA := fun F args h => match args with
  | [a0, a1] => F232 F a0 a1 h
  | _ => none
theorem g232 : TP 232 G232 := ⟨Go.Proofs.Tryz.f232, by kernel_rfl, fun F args h r he => by
  unfold G232 at he
  split at he
  · rw [e232]; exact he
  · cases he⟩
def G233 : FK → FunA := fun F args h => match args with
  | [a0] => F233 F a0 h
  | _ => none
theorem g233 : TP 233 G233 := ⟨Go.Proofs.Tryz.f233, by kernel_rfl, fun F args h r he => by
  unfold G233 at he
  split at he
  · rw [e233]; exact he
  · cases he⟩
def G234 : FK → FunA := fun F args h => match args with
  | [a0] => F234 F a0 h
  | _ => none
theorem g234 : TP 234 G234 := ⟨Go.Proofs.Tryz.f234, by kernel_rfl, fun F args h r he => by
  unfold G234 at he
  split at he
  · rw [e234]; exact he
  · cases he⟩
def G235 : FK → FunA := fun F args h => match args with
  | [a0] => F235 F a0 h
  | _ => none
theorem g235 : TP 235 G235 := ⟨Go.Proofs.Tryz.f235, by kernel_rfl, fun F args h r he => by
  unfold G235 at he
  split at he
  · rw [e235]; exact he
  · cases he⟩
def G236 : FK → FunA := fun F args h => match args with
  | [a0, a1] => F236 F a0 a1 h
  | _ => none
theorem g236 : TP 236 G236 := ⟨Go.Proofs.Tryz.f236, by kernel_rfl, fun F args h r he => by
  unfold G236 at he
  split at he
  · rw [e236]; exact he
  · cases he⟩
def G237 : FK → FunA := fun F args h => match args with
  | [a0, a1, a2] => F237 F a0 a1 a2 h
  | _ => none
theorem g237 : TP 237 G237 := ⟨Go.Proofs.Tryz.f237, by kernel_rfl, fun F args h r he => by
  unfold G237 at he
  split at he
  · rw [e237]; exact he
  · cases he⟩
def G238 : FK → FunA := fun F args h => match args with
  | [a0, a1] => F238 F a0 a1 h
  | _ => none
theorem g238 : TP 238 G238 := ⟨Go.Proofs.Tryz.f238, by kernel_rfl, fun F args h r he => by
  unfold G238 at he
  split at he
  · rw [e238]; exact he
  · cases he⟩
def G240 : FK → FunA := fun F args h => match args with
  | [a0] => F240 F a0 h
  | _ => none
theorem g240 : TP 240 G240 := ⟨Go.Proofs.Tryz.f240, by kernel_rfl, fun F args h r he => by
  unfold G240 at he
  split at he
  · rw [e240]; exact he
  · cases he⟩
def G241 : FK → FunA := fun F args h => match args with
  | [a0] => F241 F a0 h
  | _ => none
theorem g241 : TP 241 G241 := ⟨Go.Proofs.Tryz.f241, by kernel_rfl, fun F args h r he => by
  unfold G241 at he
  split at he
  · rw [e241]; exact he
  · cases he⟩
def G242 : FK → FunA := fun F args h => match args with
  | [a0, a1] => F242 F a0 a1 h
  | _ => none
theorem g242 : TP 242 G242 := ⟨Go.Proofs.Tryz.f242, by kernel_rfl, fun F args h r he => by
  unfold G242 at he
  split at he
  · rw [e242]; exact he
  · cases he⟩
def G245 : FK → FunA := fun F args h => match args with
  | [a0, a1] => F245 F a0 a1 h
  | _ => none
theorem g245 : TP 245 G245 := ⟨Go.Proofs.Tryz.f245, by kernel_rfl, fun F args h r he => by
  unfold G245 at he
  split at he
  · rw [e245]; exact he
  · cases he⟩
def G246 : FK → FunA := fun F args h => match args with
  | [a0] => F246 F a0 h
  | _ => none
theorem g246 : TP 246 G246 := ⟨Go.Proofs.Tryz.f246, by kernel_rfl, fun F args h r he => by
  unfold G246 at he
  split at he
  · rw [e246]; exact he
  · cases he⟩
def G247 : FK → FunA := fun F args h => match args with
  | [a0, a1, a2] => F247 F a0 a1 a2 h
  | _ => none
theorem g247 : TP 247 G247 := ⟨Go.Proofs.Tryz.f247, by kernel_rfl, fun F args h r he => by
  unfold G247 at he
  split at he
  · rw [e247]; exact he
  · cases he⟩
def G248 : FK → FunA := fun F args h => match args with
  | [a0, a1, a2, a3] => F248 F a0 a1 a2 a3 h
  | _ => none
theorem g248 : TP 248 G248 := ⟨Go.Proofs.Tryz.f248, by kernel_rfl, fun F args h r he => by
  unfold G248 at he
  split at he
  · rw [e248]; exact he
  · cases he⟩
def G249 : FK → FunA := fun F args h => match args with
  | [a0] => F249 F a0 h
  | _ => none
theorem g249 : TP 249 G249 := ⟨Go.Proofs.Tryz.f249, by kernel_rfl, fun F args h r he => by
  unfold G249 at he
  split at he
  · rw [e249]; exact he
  · cases he⟩
def G250 : FK → FunA := fun F args h => match args with
  | [a0] => F250 F a0 h
  | _ => none
theorem g250 : TP 250 G250 := ⟨Go.Proofs.Tryz.f250, by kernel_rfl, fun F args h r he => by
  unfold G250 at he
  split at he
  · rw [e250]; exact he
  · cases he⟩
def G251 : FK → FunA := fun F args h => match args with
  | [a0] => F251 F a0 h
  | _ => none
theorem g251 : TP 251 G251 := ⟨Go.Proofs.Tryz.f251, by kernel_rfl, fun F args h r he => by
  unfold G251 at he
  split at he
  · rw [e251]; exact he
  · cases he⟩
def G252 : FK → FunA := fun F args h => match args with
  | [a0] => F252 F a0 h
  | _ => none
theorem g252 : TP 252 G252 := ⟨Go.Proofs.Tryz.f252, by kernel_rfl, fun F args h r he => by
  unfold G252 at he
  split at he
  · rw [e252]; exact he
  · cases he⟩
def G253 : FK → FunA := fun F args h => match args with
  | [a0, a1, a2, a3] => F253 F a0 a1 a2 a3 h
  | _ => none
theorem g253 : TP 253 G253 := ⟨Go.Proofs.Tryz.f253, by kernel_rfl, fun F args h r he => by
  unfold G253 at he
  split at he
  · rw [e253]; exact he
  · cases he⟩
def G254 : FK → FunA := fun F args h => match args with
  | [a0, a1, a2] => F254 F a0 a1 a2 h
  | _ => none
theorem g254 : TP 254 G254 := ⟨Go.Proofs.Tryz.f254, by kernel_rfl, fun F args h r he => by
  unfold G254 at he
  split at he
  · rw [e254]; exact he
  · cases he⟩
def G255 : FK → FunA := fun F args h => match args with
  | [a0, a1] => F255 F a0 a1 h
  | _ => none
theorem g255 : TP 255 G255 := ⟨Go.Proofs.Tryz.f255, by kernel_rfl, fun F args h r he => by
  unfold G255 at he
  split at he
  · rw [e255]; exact he
  · cases he⟩
def G256 : FK → FunA := fun F args h => match args with
  | [a0, a1] => F256 F a0 a1 h
  | _ => none
theorem g256 : TP 256 G256 := ⟨Go.Proofs.Tryz.f256, by kernel_rfl, fun F args h r he => by
  unfold G256 at he
  split at he
  · rw [e256]; exact he
  · cases he⟩
def G257 : FK → FunA := fun F args h => match args with
  | [a0, a1, a2] => F257 F a0 a1 a2 h
  | _ => none
theorem g257 : TP 257 G257 := ⟨Go.Proofs.Tryz.f257, by kernel_rfl, fun F args h r he => by
  unfold G257 at he
  split at he
  · rw [e257]; exact he
  · cases he⟩
def G258 : FK → FunA := fun F args h => match args with
  | [a0, a1, a2, a3] => F258 F a0 a1 a2 a3 h
  | _ => none
theorem g258 : TP 258 G258 := ⟨Go.Proofs.Tryz.f258, by kernel_rfl, fun F args h r he => by
  unfold G258 at he
  split at he
  · rw [e258]; exact he
  · cases he⟩
def G259 : FK → FunA := fun F args h => match args with
  | [a0, a1, a2, a3, a4] => F259 F a0 a1 a2 a3 a4 h
  | _ => none
theorem g259 : TP 259 G259 := ⟨Go.Proofs.Tryz.f259, by kernel_rfl, fun F args h r he => by
  unfold G259 at he
  split at he
  · rw [e259]; exact he
  · cases he⟩
def G260 : FK → FunA := fun F args h => match args with
  | [a0, a1] => F260 F a0 a1 h
  | _ => none
theorem g260 : TP 260 G260 := ⟨Go.Proofs.Tryz.f260, by kernel_rfl, fun F args h r he => by
  unfold G260 at he
  split at he
  · rw [e260]; exact he
  · cases he⟩
def G261 : FK → FunA := fun F args h => match args with
  | [a0] => F261 F a0 h
  | _ => none
theorem g261 : TP 261 G261 := ⟨Go.Proofs.Tryz.f261, by kernel_rfl, fun F args h r he => by
  unfold G261 at he
  split at he
  · rw [e261]; exact he
  · cases he⟩
def G262 : FK → FunA := fun F args h => match args with
  | [a0] => F262 F a0 h
  | _ => none
theorem g262 : TP 262 G262 := ⟨Go.Proofs.Tryz.f262, by kernel_rfl, fun F args h r he => by
  unfold G262 at he
  split at he
  · rw [e262]; exact he
  · cases he⟩
def G263 : FK → FunA := fun F args h => match args with
  | [a0] => F263 F a0 h
  | _ => none
theorem g263 : TP 263 G263 := ⟨Go.Proofs.Tryz.f263, by kernel_rfl, fun F args h r he => by
  unfold G263 at he
  split at he
  · rw [e263]; exact he
  · cases he⟩
def G264 : FK → FunA := fun F args h => match args with
  | [a0, a1, a2] => F264 F a0 a1 a2 h
  | _ => none
theorem g264 : TP 264 G264 := ⟨Go.Proofs.Tryz.f264, by kernel_rfl, fun F args h r he => by
  unfold G264 at he
  split at he
  · rw [e264]; exact he
  · cases he⟩
def G268 : FK → FunA := fun F args h => match args with
  | [a0] => F268 F a0 h
  | _ => none
theorem g268 : TP 268 G268 := ⟨Go.Proofs.Tryz.f268, by kernel_rfl, fun F args h r he => by
  unfold G268 at he
  split at he
  · rw [e268]; exact he
  · cases he⟩
def G269 : FK → FunA := fun F args h => match args with
  | [a0, a1, a2, a3, a4] => F269 F a0 a1 a2 a3 a4 h
  | _ => none
theorem g269 : TP 269 G269 := ⟨Go.Proofs.Tryz.f269, by kernel_rfl, fun F args h r he => by
  unfold G269 at he
  split at he
  · rw [e269]; exact he
  · cases he⟩
def G270 : FK → FunA := fun F args h => match args with
  | [a0, a1] => F270 F a0 a1 h
  | _ => none
theorem g270 : TP 270 G270 := ⟨Go.Proofs.Tryz.f270, by kernel_rfl, fun F args h r he => by
  unfold G270 at he
  split at he
  · rw [e270]; exact he
  · cases he⟩
def G271 : FK → FunA := fun F args h => match args with
  | [a0, a1] => F271 F a0 a1 h
  | _ => none
theorem g271 : TP 271 G271 := ⟨Go.Proofs.Tryz.f271, by kernel_rfl, fun F args h r he => by
  unfold G271 at he
  split at he
  · rw [e271]; exact he
  · cases he⟩
def G272 : FK → FunA := fun F args h => match args with
  | [a0, a1] => F272 F a0 a1 h
  | _ => none
theorem g272 : TP 272 G272 := ⟨Go.Proofs.Tryz.f272, by kernel_rfl, fun F args h r he => by
  unfold G272 at he
  split at he
  · rw [e272]; exact he
  · cases he⟩
def G284 : FK → FunA := fun F args h => match args with
  | [a0, a1, a2, a3, a4] => F284 F a0 a1 a2 a3 a4 h
  | _ => none
theorem g284 : TP 284 G284 := ⟨Go.Proofs.Tryz.f284, by kernel_rfl, fun F args h r he => by
  unfold G284 at he
  split at he
  · rw [e284]; exact he
  · cases he⟩
def M0 : Tr (FK → FunA) := .node .leaf (some G255) .leaf
theorem m0 : M0.AllP TP 256 255 := allP_some g255 allP_leaf allP_leaf
def M1 : Tr (FK → FunA) := .node M0 none .leaf
theorem m1 : M1.AllP TP 128 127 := allP_none m0 allP_leaf
def M2 : Tr (FK → FunA) := .node M1 none .leaf
theorem m2 : M2.AllP TP 64 63 := allP_none m1 allP_leaf
def M3 : Tr (FK → FunA) := .node .leaf (some G159) .leaf
theorem m3 : M3.AllP TP 128 159 := allP_some g159 allP_leaf allP_leaf
def M4 : Tr (FK → FunA) := .node .leaf (some G223) .leaf
theorem m4 : M4.AllP TP 128 223 := allP_some g223 allP_leaf allP_leaf
def M5 : Tr (FK → FunA) := .node M3 (some G95) M4
theorem m5 : M5.AllP TP 64 95 := allP_some g95 m3 m4
def M6 : Tr (FK → FunA) := .node M2 (some G31) M5
theorem m6 : M6.AllP TP 32 31 := allP_some g31 m2 m5
def M7 : Tr (FK → FunA) := .node .leaf (some G271) .leaf
theorem m7 : M7.AllP TP 256 271 := allP_some g271 allP_leaf allP_leaf
def M8 : Tr (FK → FunA) := .node M7 (some G143) .leaf
theorem m8 : M8.AllP TP 128 143 := allP_some g143 m7 allP_leaf
def M9 : Tr (FK → FunA) := .node .leaf (some G207) .leaf
theorem m9 : M9.AllP TP 128 207 := allP_some g207 allP_leaf allP_leaf
def M10 : Tr (FK → FunA) := .node M8 (some G79) M9
theorem m10 : M10.AllP TP 64 79 := allP_some g79 m8 m9
def M11 : Tr (FK → FunA) := .node .leaf (some G175) .leaf
theorem m11 : M11.AllP TP 128 175 := allP_some g175 allP_leaf allP_leaf
def M12 : Tr (FK → FunA) := .node M11 (some G111) .leaf
theorem m12 : M12.AllP TP 64 111 := allP_some g111 m11 allP_leaf
def M13 : Tr (FK → FunA) := .node M10 none M12
theorem m13 : M13.AllP TP 32 47 := allP_none m10 m12
def M14 : Tr (FK → FunA) := .node M6 none M13
theorem m14 : M14.AllP TP 16 15 := allP_none m6 m13
def M15 : Tr (FK → FunA) := .node .leaf (some G263) .leaf
theorem m15 : M15.AllP TP 256 263 := allP_some g263 allP_leaf allP_leaf
def M16 : Tr (FK → FunA) := .node M15 (some G135) .leaf
theorem m16 : M16.AllP TP 128 135 := allP_some g135 m15 allP_leaf
def M17 : Tr (FK → FunA) := .node M16 (some G71) .leaf
theorem m17 : M17.AllP TP 64 71 := allP_some g71 m16 allP_leaf
def M18 : Tr (FK → FunA) := .node .leaf (some G167) .leaf
theorem m18 : M18.AllP TP 128 167 := allP_some g167 allP_leaf allP_leaf
def M19 : Tr (FK → FunA) := .node .leaf (some G231) .leaf
theorem m19 : M19.AllP TP 128 231 := allP_some g231 allP_leaf allP_leaf
def M20 : Tr (FK → FunA) := .node M18 none M19
theorem m20 : M20.AllP TP 64 103 := allP_none m18 m19
def M21 : Tr (FK → FunA) := .node M17 none M20
theorem m21 : M21.AllP TP 32 39 := allP_none m17 m20
def M22 : Tr (FK → FunA) := .node .leaf (some G215) .leaf
theorem m22 : M22.AllP TP 128 215 := allP_some g215 allP_leaf allP_leaf
def M23 : Tr (FK → FunA) := .node .leaf (some G87) M22
theorem m23 : M23.AllP TP 64 87 := allP_some g87 allP_leaf m22
def M24 : Tr (FK → FunA) := .node .leaf (some G183) .leaf
theorem m24 : M24.AllP TP 128 183 := allP_some g183 allP_leaf allP_leaf
def M25 : Tr (FK → FunA) := .node .leaf (some G247) .leaf
theorem m25 : M25.AllP TP 128 247 := allP_some g247 allP_leaf allP_leaf
def M26 : Tr (FK → FunA) := .node M24 none M25
theorem m26 : M26.AllP TP 64 119 := allP_none m24 m25
def M27 : Tr (FK → FunA) := .node M23 none M26
theorem m27 : M27.AllP TP 32 55 := allP_none m23 m26
def M28 : Tr (FK → FunA) := .node M21 none M27
theorem m28 : M28.AllP TP 16 23 := allP_none m21 m27
def M29 : Tr (FK → FunA) := .node M14 none M28
theorem m29 : M29.AllP TP 8 7 := allP_none m14 m28
def M30 : Tr (FK → FunA) := .node .leaf (some G259) .leaf
theorem m30 : M30.AllP TP 256 259 := allP_some g259 allP_leaf allP_leaf
def M31 : Tr (FK → FunA) := .node M30 none .leaf
theorem m31 : M31.AllP TP 128 131 := allP_none m30 allP_leaf
def M32 : Tr (FK → FunA) := .node M31 (some G67) .leaf
theorem m32 : M32.AllP TP 64 67 := allP_some g67 m31 allP_leaf
def M33 : Tr (FK → FunA) := .node .leaf (some G163) .leaf
theorem m33 : M33.AllP TP 128 163 := allP_some g163 allP_leaf allP_leaf
def M34 : Tr (FK → FunA) := .node .leaf (some G227) .leaf
theorem m34 : M34.AllP TP 128 227 := allP_some g227 allP_leaf allP_leaf
def M35 : Tr (FK → FunA) := .node M33 (some G99) M34
theorem m35 : M35.AllP TP 64 99 := allP_some g99 m33 m34
def M36 : Tr (FK → FunA) := .node M32 (some G35) M35
theorem m36 : M36.AllP TP 32 35 := allP_some g35 m32 m35
def M37 : Tr (FK → FunA) := .node .leaf (some G147) .leaf
theorem m37 : M37.AllP TP 128 147 := allP_some g147 allP_leaf allP_leaf
def M38 : Tr (FK → FunA) := .node .leaf (some G211) .leaf
theorem m38 : M38.AllP TP 128 211 := allP_some g211 allP_leaf allP_leaf
def M39 : Tr (FK → FunA) := .node M37 (some G83) M38
theorem m39 : M39.AllP TP 64 83 := allP_some g83 m37 m38
def M40 : Tr (FK → FunA) := .node .leaf (some G179) .leaf
theorem m40 : M40.AllP TP 128 179 := allP_some g179 allP_leaf allP_leaf
def M41 : Tr (FK → FunA) := .node M40 none .leaf
theorem m41 : M41.AllP TP 64 115 := allP_none m40 allP_leaf
def M42 : Tr (FK → FunA) := .node M39 (some G51) M41
theorem m42 : M42.AllP TP 32 51 := allP_some g51 m39 m41
def M43 : Tr (FK → FunA) := .node M36 (some G19) M42
theorem m43 : M43.AllP TP 16 19 := allP_some g19 m36 m42
def M44 : Tr (FK → FunA) := .node .leaf (some G139) .leaf
theorem m44 : M44.AllP TP 128 139 := allP_some g139 allP_leaf allP_leaf
def M45 : Tr (FK → FunA) := .node .leaf (some G203) .leaf
theorem m45 : M45.AllP TP 128 203 := allP_some g203 allP_leaf allP_leaf
def M46 : Tr (FK → FunA) := .node M44 (some G75) M45
theorem m46 : M46.AllP TP 64 75 := allP_some g75 m44 m45
def M47 : Tr (FK → FunA) := .node .leaf (some G171) .leaf
theorem m47 : M47.AllP TP 128 171 := allP_some g171 allP_leaf allP_leaf
def M48 : Tr (FK → FunA) := .node .leaf (some G235) .leaf
theorem m48 : M48.AllP TP 128 235 := allP_some g235 allP_leaf allP_leaf
def M49 : Tr (FK → FunA) := .node M47 none M48
theorem m49 : M49.AllP TP 64 107 := allP_none m47 m48
def M50 : Tr (FK → FunA) := .node M46 (some G43) M49
theorem m50 : M50.AllP TP 32 43 := allP_some g43 m46 m49
def M51 : Tr (FK → FunA) := .node .leaf (some G219) .leaf
theorem m51 : M51.AllP TP 128 219 := allP_some g219 allP_leaf allP_leaf
def M52 : Tr (FK → FunA) := .node .leaf (some G91) M51
theorem m52 : M52.AllP TP 64 91 := allP_some g91 allP_leaf m51
def M53 : Tr (FK → FunA) := .node .leaf (some G251) .leaf
theorem m53 : M53.AllP TP 128 251 := allP_some g251 allP_leaf allP_leaf
def M54 : Tr (FK → FunA) := .node .leaf none M53
theorem m54 : M54.AllP TP 64 123 := allP_none allP_leaf m53
def M55 : Tr (FK → FunA) := .node M52 none M54
theorem m55 : M55.AllP TP 32 59 := allP_none m52 m54
def M56 : Tr (FK → FunA) := .node M50 (some G27) M55
theorem m56 : M56.AllP TP 16 27 := allP_some g27 m50 m55
def M57 : Tr (FK → FunA) := .node M43 (some G11) M56
theorem m57 : M57.AllP TP 8 11 := allP_some g11 m43 m56
def M58 : Tr (FK → FunA) := .node M29 none M57
theorem m58 : M58.AllP TP 4 3 := allP_none m29 m57
def M59 : Tr (FK → FunA) := .node .leaf (some G257) .leaf
theorem m59 : M59.AllP TP 256 257 := allP_some g257 allP_leaf allP_leaf
def M60 : Tr (FK → FunA) := .node M59 none .leaf
theorem m60 : M60.AllP TP 128 129 := allP_none m59 allP_leaf
def M61 : Tr (FK → FunA) := .node M60 (some G65) .leaf
theorem m61 : M61.AllP TP 64 65 := allP_some g65 m60 allP_leaf
def M62 : Tr (FK → FunA) := .node .leaf (some G161) .leaf
theorem m62 : M62.AllP TP 128 161 := allP_some g161 allP_leaf allP_leaf
def M63 : Tr (FK → FunA) := .node .leaf (some G225) .leaf
theorem m63 : M63.AllP TP 128 225 := allP_some g225 allP_leaf allP_leaf
def M64 : Tr (FK → FunA) := .node M62 (some G97) M63
theorem m64 : M64.AllP TP 64 97 := allP_some g97 m62 m63
def M65 : Tr (FK → FunA) := .node M61 (some G33) M64
theorem m65 : M65.AllP TP 32 33 := allP_some g33 m61 m64
def M66 : Tr (FK → FunA) := .node .leaf (some G145) .leaf
theorem m66 : M66.AllP TP 128 145 := allP_some g145 allP_leaf allP_leaf
def M67 : Tr (FK → FunA) := .node .leaf (some G209) .leaf
theorem m67 : M67.AllP TP 128 209 := allP_some g209 allP_leaf allP_leaf
def M68 : Tr (FK → FunA) := .node M66 (some G81) M67
theorem m68 : M68.AllP TP 64 81 := allP_some g81 m66 m67
def M69 : Tr (FK → FunA) := .node .leaf (some G177) .leaf
theorem m69 : M69.AllP TP 128 177 := allP_some g177 allP_leaf allP_leaf
def M70 : Tr (FK → FunA) := .node .leaf (some G241) .leaf
theorem m70 : M70.AllP TP 128 241 := allP_some g241 allP_leaf allP_leaf
def M71 : Tr (FK → FunA) := .node M69 (some G113) M70
theorem m71 : M71.AllP TP 64 113 := allP_some g113 m69 m70
def M72 : Tr (FK → FunA) := .node M68 (some G49) M71
theorem m72 : M72.AllP TP 32 49 := allP_some g49 m68 m71
def M73 : Tr (FK → FunA) := .node M65 none M72
theorem m73 : M73.AllP TP 16 17 := allP_none m65 m72
def M74 : Tr (FK → FunA) := .node .leaf (some G137) .leaf
theorem m74 : M74.AllP TP 128 137 := allP_some g137 allP_leaf allP_leaf
def M75 : Tr (FK → FunA) := .node .leaf (some G201) .leaf
theorem m75 : M75.AllP TP 128 201 := allP_some g201 allP_leaf allP_leaf
def M76 : Tr (FK → FunA) := .node M74 (some G73) M75
theorem m76 : M76.AllP TP 64 73 := allP_some g73 m74 m75
def M77 : Tr (FK → FunA) := .node .leaf (some G169) .leaf
theorem m77 : M77.AllP TP 128 169 := allP_some g169 allP_leaf allP_leaf
def M78 : Tr (FK → FunA) := .node .leaf (some G233) .leaf
theorem m78 : M78.AllP TP 128 233 := allP_some g233 allP_leaf allP_leaf
def M79 : Tr (FK → FunA) := .node M77 none M78
theorem m79 : M79.AllP TP 64 105 := allP_none m77 m78
def M80 : Tr (FK → FunA) := .node M76 none M79
theorem m80 : M80.AllP TP 32 41 := allP_none m76 m79
def M81 : Tr (FK → FunA) := .node .leaf (some G217) .leaf
theorem m81 : M81.AllP TP 128 217 := allP_some g217 allP_leaf allP_leaf
def M82 : Tr (FK → FunA) := .node .leaf (some G89) M81
theorem m82 : M82.AllP TP 64 89 := allP_some g89 allP_leaf m81
def M83 : Tr (FK → FunA) := .node .leaf (some G185) .leaf
theorem m83 : M83.AllP TP 128 185 := allP_some g185 allP_leaf allP_leaf
def M84 : Tr (FK → FunA) := .node .leaf (some G249) .leaf
theorem m84 : M84.AllP TP 128 249 := allP_some g249 allP_leaf allP_leaf
def M85 : Tr (FK → FunA) := .node M83 none M84
theorem m85 : M85.AllP TP 64 121 := allP_none m83 m84
def M86 : Tr (FK → FunA) := .node M82 none M85
theorem m86 : M86.AllP TP 32 57 := allP_none m82 m85
def M87 : Tr (FK → FunA) := .node M80 (some G25) M86
theorem m87 : M87.AllP TP 16 25 := allP_some g25 m80 m86
def M88 : Tr (FK → FunA) := .node M73 none M87
theorem m88 : M88.AllP TP 8 9 := allP_none m73 m87
def M89 : Tr (FK → FunA) := .node .leaf (some G261) .leaf
theorem m89 : M89.AllP TP 256 261 := allP_some g261 allP_leaf allP_leaf
def M90 : Tr (FK → FunA) := .node M89 none .leaf
theorem m90 : M90.AllP TP 128 133 := allP_none m89 allP_leaf
def M91 : Tr (FK → FunA) := .node M90 (some G69) .leaf
theorem m91 : M91.AllP TP 64 69 := allP_some g69 m90 allP_leaf
def M92 : Tr (FK → FunA) := .node .leaf (some G165) .leaf
theorem m92 : M92.AllP TP 128 165 := allP_some g165 allP_leaf allP_leaf
def M93 : Tr (FK → FunA) := .node .leaf (some G229) .leaf
theorem m93 : M93.AllP TP 128 229 := allP_some g229 allP_leaf allP_leaf
def M94 : Tr (FK → FunA) := .node M92 (some G101) M93
theorem m94 : M94.AllP TP 64 101 := allP_some g101 m92 m93
def M95 : Tr (FK → FunA) := .node M91 none M94
theorem m95 : M95.AllP TP 32 37 := allP_none m91 m94
def M96 : Tr (FK → FunA) := .node .leaf (some G149) .leaf
theorem m96 : M96.AllP TP 128 149 := allP_some g149 allP_leaf allP_leaf
def M97 : Tr (FK → FunA) := .node .leaf (some G213) .leaf
theorem m97 : M97.AllP TP 128 213 := allP_some g213 allP_leaf allP_leaf
def M98 : Tr (FK → FunA) := .node M96 (some G85) M97
theorem m98 : M98.AllP TP 64 85 := allP_some g85 m96 m97
def M99 : Tr (FK → FunA) := .node .leaf (some G181) .leaf
theorem m99 : M99.AllP TP 128 181 := allP_some g181 allP_leaf allP_leaf
def M100 : Tr (FK → FunA) := .node .leaf (some G245) .leaf
theorem m100 : M100.AllP TP 128 245 := allP_some g245 allP_leaf allP_leaf
def M101 : Tr (FK → FunA) := .node M99 none M100
theorem m101 : M101.AllP TP 64 117 := allP_none m99 m100
def M102 : Tr (FK → FunA) := .node M98 none M101
theorem m102 : M102.AllP TP 32 53 := allP_none m98 m101
def M103 : Tr (FK → FunA) := .node M95 (some G21) M102
theorem m103 : M103.AllP TP 16 21 := allP_some g21 m95 m102
def M104 : Tr (FK → FunA) := .node .leaf (some G269) .leaf
theorem m104 : M104.AllP TP 256 269 := allP_some g269 allP_leaf allP_leaf
def M105 : Tr (FK → FunA) := .node M104 (some G141) .leaf
theorem m105 : M105.AllP TP 128 141 := allP_some g141 m104 allP_leaf
def M106 : Tr (FK → FunA) := .node .leaf (some G205) .leaf
theorem m106 : M106.AllP TP 128 205 := allP_some g205 allP_leaf allP_leaf
def M107 : Tr (FK → FunA) := .node M105 none M106
theorem m107 : M107.AllP TP 64 77 := allP_none m105 m106
def M108 : Tr (FK → FunA) := .node .leaf (some G173) .leaf
theorem m108 : M108.AllP TP 128 173 := allP_some g173 allP_leaf allP_leaf
def M109 : Tr (FK → FunA) := .node .leaf (some G237) .leaf
theorem m109 : M109.AllP TP 128 237 := allP_some g237 allP_leaf allP_leaf
def M110 : Tr (FK → FunA) := .node M108 (some G109) M109
theorem m110 : M110.AllP TP 64 109 := allP_some g109 m108 m109
def M111 : Tr (FK → FunA) := .node M107 (some G45) M110
theorem m111 : M111.AllP TP 32 45 := allP_some g45 m107 m110
def M112 : Tr (FK → FunA) := .node .leaf (some G157) .leaf
theorem m112 : M112.AllP TP 128 157 := allP_some g157 allP_leaf allP_leaf
def M113 : Tr (FK → FunA) := .node M112 (some G93) .leaf
theorem m113 : M113.AllP TP 64 93 := allP_some g93 m112 allP_leaf
def M114 : Tr (FK → FunA) := .node .leaf (some G253) .leaf
theorem m114 : M114.AllP TP 128 253 := allP_some g253 allP_leaf allP_leaf
def M115 : Tr (FK → FunA) := .node .leaf none M114
theorem m115 : M115.AllP TP 64 125 := allP_none allP_leaf m114
def M116 : Tr (FK → FunA) := .node M113 none M115
theorem m116 : M116.AllP TP 32 61 := allP_none m113 m115
def M117 : Tr (FK → FunA) := .node M111 (some G29) M116
theorem m117 : M117.AllP TP 16 29 := allP_some g29 m111 m116
def M118 : Tr (FK → FunA) := .node M103 none M117
theorem m118 : M118.AllP TP 8 13 := allP_none m103 m117
def M119 : Tr (FK → FunA) := .node M88 none M118
theorem m119 : M119.AllP TP 4 5 := allP_none m88 m118
def M120 : Tr (FK → FunA) := .node M58 none M119
theorem m120 : M120.AllP TP 2 1 := allP_none m58 m119
def M121 : Tr (FK → FunA) := .node .leaf (some G256) .leaf
theorem m121 : M121.AllP TP 256 256 := allP_some g256 allP_leaf allP_leaf
def M122 : Tr (FK → FunA) := .node M121 none .leaf
theorem m122 : M122.AllP TP 128 128 := allP_none m121 allP_leaf
def M123 : Tr (FK → FunA) := .node M122 none .leaf
theorem m123 : M123.AllP TP 64 64 := allP_none m122 allP_leaf
def M124 : Tr (FK → FunA) := .node .leaf (some G160) .leaf
theorem m124 : M124.AllP TP 128 160 := allP_some g160 allP_leaf allP_leaf
def M125 : Tr (FK → FunA) := .node .leaf (some G224) .leaf
theorem m125 : M125.AllP TP 128 224 := allP_some g224 allP_leaf allP_leaf
def M126 : Tr (FK → FunA) := .node M124 (some G96) M125
theorem m126 : M126.AllP TP 64 96 := allP_some g96 m124 m125
def M127 : Tr (FK → FunA) := .node M123 (some G32) M126
theorem m127 : M127.AllP TP 32 32 := allP_some g32 m123 m126
def M128 : Tr (FK → FunA) := .node .leaf (some G272) .leaf
theorem m128 : M128.AllP TP 256 272 := allP_some g272 allP_leaf allP_leaf
def M129 : Tr (FK → FunA) := .node M128 (some G144) .leaf
theorem m129 : M129.AllP TP 128 144 := allP_some g144 m128 allP_leaf
def M130 : Tr (FK → FunA) := .node .leaf (some G208) .leaf
theorem m130 : M130.AllP TP 128 208 := allP_some g208 allP_leaf allP_leaf
def M131 : Tr (FK → FunA) := .node M129 (some G80) M130
theorem m131 : M131.AllP TP 64 80 := allP_some g80 m129 m130
def M132 : Tr (FK → FunA) := .node .leaf (some G176) .leaf
theorem m132 : M132.AllP TP 128 176 := allP_some g176 allP_leaf allP_leaf
def M133 : Tr (FK → FunA) := .node .leaf (some G240) .leaf
theorem m133 : M133.AllP TP 128 240 := allP_some g240 allP_leaf allP_leaf
def M134 : Tr (FK → FunA) := .node M132 (some G112) M133
theorem m134 : M134.AllP TP 64 112 := allP_some g112 m132 m133
def M135 : Tr (FK → FunA) := .node M131 none M134
theorem m135 : M135.AllP TP 32 48 := allP_none m131 m134
def M136 : Tr (FK → FunA) := .node M127 none M135
theorem m136 : M136.AllP TP 16 16 := allP_none m127 m135
def M137 : Tr (FK → FunA) := .node .leaf (some G264) .leaf
theorem m137 : M137.AllP TP 256 264 := allP_some g264 allP_leaf allP_leaf
def M138 : Tr (FK → FunA) := .node M137 (some G136) .leaf
theorem m138 : M138.AllP TP 128 136 := allP_some g136 m137 allP_leaf
def M139 : Tr (FK → FunA) := .node .leaf (some G200) .leaf
theorem m139 : M139.AllP TP 128 200 := allP_some g200 allP_leaf allP_leaf
def M140 : Tr (FK → FunA) := .node M138 (some G72) M139
theorem m140 : M140.AllP TP 64 72 := allP_some g72 m138 m139
def M141 : Tr (FK → FunA) := .node .leaf (some G168) .leaf
theorem m141 : M141.AllP TP 128 168 := allP_some g168 allP_leaf allP_leaf
def M142 : Tr (FK → FunA) := .node .leaf (some G232) .leaf
theorem m142 : M142.AllP TP 128 232 := allP_some g232 allP_leaf allP_leaf
def M143 : Tr (FK → FunA) := .node M141 none M142
theorem m143 : M143.AllP TP 64 104 := allP_none m141 m142
def M144 : Tr (FK → FunA) := .node M140 none M143
theorem m144 : M144.AllP TP 32 40 := allP_none m140 m143
def M145 : Tr (FK → FunA) := .node .leaf (some G216) .leaf
theorem m145 : M145.AllP TP 128 216 := allP_some g216 allP_leaf allP_leaf
def M146 : Tr (FK → FunA) := .node .leaf (some G88) M145
theorem m146 : M146.AllP TP 64 88 := allP_some g88 allP_leaf m145
def M147 : Tr (FK → FunA) := .node .leaf (some G184) .leaf
theorem m147 : M147.AllP TP 128 184 := allP_some g184 allP_leaf allP_leaf
def M148 : Tr (FK → FunA) := .node .leaf (some G248) .leaf
theorem m148 : M148.AllP TP 128 248 := allP_some g248 allP_leaf allP_leaf
def M149 : Tr (FK → FunA) := .node M147 none M148
theorem m149 : M149.AllP TP 64 120 := allP_none m147 m148
def M150 : Tr (FK → FunA) := .node M146 none M149
theorem m150 : M150.AllP TP 32 56 := allP_none m146 m149
def M151 : Tr (FK → FunA) := .node M144 (some G24) M150
theorem m151 : M151.AllP TP 16 24 := allP_some g24 m144 m150
def M152 : Tr (FK → FunA) := .node M136 none M151
theorem m152 : M152.AllP TP 8 8 := allP_none m136 m151
def M153 : Tr (FK → FunA) := .node .leaf (some G260) .leaf
theorem m153 : M153.AllP TP 256 260 := allP_some g260 allP_leaf allP_leaf
def M154 : Tr (FK → FunA) := .node M153 none .leaf
theorem m154 : M154.AllP TP 128 132 := allP_none m153 allP_leaf
def M155 : Tr (FK → FunA) := .node M154 (some G68) .leaf
theorem m155 : M155.AllP TP 64 68 := allP_some g68 m154 allP_leaf
def M156 : Tr (FK → FunA) := .node .leaf (some G164) .leaf
theorem m156 : M156.AllP TP 128 164 := allP_some g164 allP_leaf allP_leaf
def M157 : Tr (FK → FunA) := .node .leaf (some G228) .leaf
theorem m157 : M157.AllP TP 128 228 := allP_some g228 allP_leaf allP_leaf
def M158 : Tr (FK → FunA) := .node M156 (some G100) M157
theorem m158 : M158.AllP TP 64 100 := allP_some g100 m156 m157
def M159 : Tr (FK → FunA) := .node M155 (some G36) M158
theorem m159 : M159.AllP TP 32 36 := allP_some g36 m155 m158
def M160 : Tr (FK → FunA) := .node .leaf (some G148) .leaf
theorem m160 : M160.AllP TP 128 148 := allP_some g148 allP_leaf allP_leaf
def M161 : Tr (FK → FunA) := .node .leaf (some G212) .leaf
theorem m161 : M161.AllP TP 128 212 := allP_some g212 allP_leaf allP_leaf
def M162 : Tr (FK → FunA) := .node M160 (some G84) M161
theorem m162 : M162.AllP TP 64 84 := allP_some g84 m160 m161
def M163 : Tr (FK → FunA) := .node M162 none .leaf
theorem m163 : M163.AllP TP 32 52 := allP_none m162 allP_leaf
def M164 : Tr (FK → FunA) := .node M159 (some G20) M163
theorem m164 : M164.AllP TP 16 20 := allP_some g20 m159 m163
def M165 : Tr (FK → FunA) := .node .leaf (some G268) .leaf
theorem m165 : M165.AllP TP 256 268 := allP_some g268 allP_leaf allP_leaf
def M166 : Tr (FK → FunA) := .node M165 (some G140) .leaf
theorem m166 : M166.AllP TP 128 140 := allP_some g140 m165 allP_leaf
def M167 : Tr (FK → FunA) := .node .leaf (some G204) .leaf
theorem m167 : M167.AllP TP 128 204 := allP_some g204 allP_leaf allP_leaf
def M168 : Tr (FK → FunA) := .node M166 none M167
theorem m168 : M168.AllP TP 64 76 := allP_none m166 m167
def M169 : Tr (FK → FunA) := .node .leaf (some G172) .leaf
theorem m169 : M169.AllP TP 128 172 := allP_some g172 allP_leaf allP_leaf
def M170 : Tr (FK → FunA) := .node .leaf (some G236) .leaf
theorem m170 : M170.AllP TP 128 236 := allP_some g236 allP_leaf allP_leaf
def M171 : Tr (FK → FunA) := .node M169 none M170
theorem m171 : M171.AllP TP 64 108 := allP_none m169 m170
def M172 : Tr (FK → FunA) := .node M168 (some G44) M171
theorem m172 : M172.AllP TP 32 44 := allP_some g44 m168 m171
def M173 : Tr (FK → FunA) := .node .leaf (some G284) .leaf
theorem m173 : M173.AllP TP 256 284 := allP_some g284 allP_leaf allP_leaf
def M174 : Tr (FK → FunA) := .node M173 none .leaf
theorem m174 : M174.AllP TP 128 156 := allP_none m173 allP_leaf
def M175 : Tr (FK → FunA) := .node M174 (some G92) .leaf
theorem m175 : M175.AllP TP 64 92 := allP_some g92 m174 allP_leaf
def M176 : Tr (FK → FunA) := .node .leaf (some G252) .leaf
theorem m176 : M176.AllP TP 128 252 := allP_some g252 allP_leaf allP_leaf
def M177 : Tr (FK → FunA) := .node .leaf none M176
theorem m177 : M177.AllP TP 64 124 := allP_none allP_leaf m176
def M178 : Tr (FK → FunA) := .node M175 none M177
theorem m178 : M178.AllP TP 32 60 := allP_none m175 m177
def M179 : Tr (FK → FunA) := .node M172 (some G28) M178
theorem m179 : M179.AllP TP 16 28 := allP_some g28 m172 m178
def M180 : Tr (FK → FunA) := .node M164 none M179
theorem m180 : M180.AllP TP 8 12 := allP_none m164 m179
def M181 : Tr (FK → FunA) := .node M152 none M180
theorem m181 : M181.AllP TP 4 4 := allP_none m152 m180
def M182 : Tr (FK → FunA) := .node .leaf (some G258) .leaf
theorem m182 : M182.AllP TP 256 258 := allP_some g258 allP_leaf allP_leaf
def M183 : Tr (FK → FunA) := .node M182 none .leaf
theorem m183 : M183.AllP TP 128 130 := allP_none m182 allP_leaf
def M184 : Tr (FK → FunA) := .node M183 (some G66) .leaf
theorem m184 : M184.AllP TP 64 66 := allP_some g66 m183 allP_leaf
def M185 : Tr (FK → FunA) := .node .leaf (some G162) .leaf
theorem m185 : M185.AllP TP 128 162 := allP_some g162 allP_leaf allP_leaf
def M186 : Tr (FK → FunA) := .node .leaf (some G226) .leaf
theorem m186 : M186.AllP TP 128 226 := allP_some g226 allP_leaf allP_leaf
def M187 : Tr (FK → FunA) := .node M185 (some G98) M186
theorem m187 : M187.AllP TP 64 98 := allP_some g98 m185 m186
def M188 : Tr (FK → FunA) := .node M184 (some G34) M187
theorem m188 : M188.AllP TP 32 34 := allP_some g34 m184 m187
def M189 : Tr (FK → FunA) := .node .leaf (some G146) .leaf
theorem m189 : M189.AllP TP 128 146 := allP_some g146 allP_leaf allP_leaf
def M190 : Tr (FK → FunA) := .node .leaf (some G210) .leaf
theorem m190 : M190.AllP TP 128 210 := allP_some g210 allP_leaf allP_leaf
def M191 : Tr (FK → FunA) := .node M189 (some G82) M190
theorem m191 : M191.AllP TP 64 82 := allP_some g82 m189 m190
def M192 : Tr (FK → FunA) := .node .leaf (some G178) .leaf
theorem m192 : M192.AllP TP 128 178 := allP_some g178 allP_leaf allP_leaf
def M193 : Tr (FK → FunA) := .node .leaf (some G242) .leaf
theorem m193 : M193.AllP TP 128 242 := allP_some g242 allP_leaf allP_leaf
def M194 : Tr (FK → FunA) := .node M192 none M193
theorem m194 : M194.AllP TP 64 114 := allP_none m192 m193
def M195 : Tr (FK → FunA) := .node M191 (some G50) M194
theorem m195 : M195.AllP TP 32 50 := allP_some g50 m191 m194
def M196 : Tr (FK → FunA) := .node M188 none M195
theorem m196 : M196.AllP TP 16 18 := allP_none m188 m195
def M197 : Tr (FK → FunA) := .node .leaf (some G138) .leaf
theorem m197 : M197.AllP TP 128 138 := allP_some g138 allP_leaf allP_leaf
def M198 : Tr (FK → FunA) := .node .leaf (some G202) .leaf
theorem m198 : M198.AllP TP 128 202 := allP_some g202 allP_leaf allP_leaf
def M199 : Tr (FK → FunA) := .node M197 (some G74) M198
theorem m199 : M199.AllP TP 64 74 := allP_some g74 m197 m198
def M200 : Tr (FK → FunA) := .node .leaf (some G170) .leaf
theorem m200 : M200.AllP TP 128 170 := allP_some g170 allP_leaf allP_leaf
def M201 : Tr (FK → FunA) := .node .leaf (some G234) .leaf
theorem m201 : M201.AllP TP 128 234 := allP_some g234 allP_leaf allP_leaf
def M202 : Tr (FK → FunA) := .node M200 none M201
theorem m202 : M202.AllP TP 64 106 := allP_none m200 m201
def M203 : Tr (FK → FunA) := .node M199 (some G42) M202
theorem m203 : M203.AllP TP 32 42 := allP_some g42 m199 m202
def M204 : Tr (FK → FunA) := .node .leaf (some G218) .leaf
theorem m204 : M204.AllP TP 128 218 := allP_some g218 allP_leaf allP_leaf
def M205 : Tr (FK → FunA) := .node .leaf (some G90) M204
theorem m205 : M205.AllP TP 64 90 := allP_some g90 allP_leaf m204
def M206 : Tr (FK → FunA) := .node .leaf (some G186) .leaf
theorem m206 : M206.AllP TP 128 186 := allP_some g186 allP_leaf allP_leaf
def M207 : Tr (FK → FunA) := .node .leaf (some G250) .leaf
theorem m207 : M207.AllP TP 128 250 := allP_some g250 allP_leaf allP_leaf
def M208 : Tr (FK → FunA) := .node M206 none M207
theorem m208 : M208.AllP TP 64 122 := allP_none m206 m207
def M209 : Tr (FK → FunA) := .node M205 none M208
theorem m209 : M209.AllP TP 32 58 := allP_none m205 m208
def M210 : Tr (FK → FunA) := .node M203 (some G26) M209
theorem m210 : M210.AllP TP 16 26 := allP_some g26 m203 m209
def M211 : Tr (FK → FunA) := .node M196 none M210
theorem m211 : M211.AllP TP 8 10 := allP_none m196 m210
def M212 : Tr (FK → FunA) := .node .leaf (some G262) .leaf
theorem m212 : M212.AllP TP 256 262 := allP_some g262 allP_leaf allP_leaf
def M213 : Tr (FK → FunA) := .node M212 none .leaf
theorem m213 : M213.AllP TP 128 134 := allP_none m212 allP_leaf
def M214 : Tr (FK → FunA) := .node M213 (some G70) .leaf
theorem m214 : M214.AllP TP 64 70 := allP_some g70 m213 allP_leaf
def M215 : Tr (FK → FunA) := .node .leaf (some G166) .leaf
theorem m215 : M215.AllP TP 128 166 := allP_some g166 allP_leaf allP_leaf
def M216 : Tr (FK → FunA) := .node .leaf (some G230) .leaf
theorem m216 : M216.AllP TP 128 230 := allP_some g230 allP_leaf allP_leaf
def M217 : Tr (FK → FunA) := .node M215 none M216
theorem m217 : M217.AllP TP 64 102 := allP_none m215 m216
def M218 : Tr (FK → FunA) := .node M214 none M217
theorem m218 : M218.AllP TP 32 38 := allP_none m214 m217
def M219 : Tr (FK → FunA) := .node .leaf (some G150) .leaf
theorem m219 : M219.AllP TP 128 150 := allP_some g150 allP_leaf allP_leaf
def M220 : Tr (FK → FunA) := .node .leaf (some G214) .leaf
theorem m220 : M220.AllP TP 128 214 := allP_some g214 allP_leaf allP_leaf
def M221 : Tr (FK → FunA) := .node M219 (some G86) M220
theorem m221 : M221.AllP TP 64 86 := allP_some g86 m219 m220
def M222 : Tr (FK → FunA) := .node .leaf (some G182) .leaf
theorem m222 : M222.AllP TP 128 182 := allP_some g182 allP_leaf allP_leaf
def M223 : Tr (FK → FunA) := .node .leaf (some G246) .leaf
theorem m223 : M223.AllP TP 128 246 := allP_some g246 allP_leaf allP_leaf
def M224 : Tr (FK → FunA) := .node M222 none M223
theorem m224 : M224.AllP TP 64 118 := allP_none m222 m223
def M225 : Tr (FK → FunA) := .node M221 none M224
theorem m225 : M225.AllP TP 32 54 := allP_none m221 m224
def M226 : Tr (FK → FunA) := .node M218 none M225
theorem m226 : M226.AllP TP 16 22 := allP_none m218 m225
def M227 : Tr (FK → FunA) := .node .leaf (some G270) .leaf
theorem m227 : M227.AllP TP 256 270 := allP_some g270 allP_leaf allP_leaf
def M228 : Tr (FK → FunA) := .node M227 (some G142) .leaf
theorem m228 : M228.AllP TP 128 142 := allP_some g142 m227 allP_leaf
def M229 : Tr (FK → FunA) := .node M228 none .leaf
theorem m229 : M229.AllP TP 64 78 := allP_none m228 allP_leaf
def M230 : Tr (FK → FunA) := .node .leaf (some G174) .leaf
theorem m230 : M230.AllP TP 128 174 := allP_some g174 allP_leaf allP_leaf
def M231 : Tr (FK → FunA) := .node .leaf (some G238) .leaf
theorem m231 : M231.AllP TP 128 238 := allP_some g238 allP_leaf allP_leaf
def M232 : Tr (FK → FunA) := .node M230 (some G110) M231
theorem m232 : M232.AllP TP 64 110 := allP_some g110 m230 m231
def M233 : Tr (FK → FunA) := .node M229 none M232
theorem m233 : M233.AllP TP 32 46 := allP_none m229 m232
def M234 : Tr (FK → FunA) := .node .leaf (some G158) .leaf
theorem m234 : M234.AllP TP 128 158 := allP_some g158 allP_leaf allP_leaf
def M235 : Tr (FK → FunA) := .node .leaf (some G222) .leaf
theorem m235 : M235.AllP TP 128 222 := allP_some g222 allP_leaf allP_leaf
def M236 : Tr (FK → FunA) := .node M234 (some G94) M235
theorem m236 : M236.AllP TP 64 94 := allP_some g94 m234 m235
def M237 : Tr (FK → FunA) := .node .leaf (some G254) .leaf
theorem m237 : M237.AllP TP 128 254 := allP_some g254 allP_leaf allP_leaf
def M238 : Tr (FK → FunA) := .node .leaf none M237
theorem m238 : M238.AllP TP 64 126 := allP_none allP_leaf m237
def M239 : Tr (FK → FunA) := .node M236 none M238
theorem m239 : M239.AllP TP 32 62 := allP_none m236 m238
def M240 : Tr (FK → FunA) := .node M233 (some G30) M239
theorem m240 : M240.AllP TP 16 30 := allP_some g30 m233 m239
def M241 : Tr (FK → FunA) := .node M226 (some G14) M240
theorem m241 : M241.AllP TP 8 14 := allP_some g14 m226 m240
def M242 : Tr (FK → FunA) := .node M211 none M241
theorem m242 : M242.AllP TP 4 6 := allP_none m211 m241
def M243 : Tr (FK → FunA) := .node M181 none M242
theorem m243 : M243.AllP TP 2 2 := allP_none m181 m242
def M244 : Tr (FK → FunA) := .node M120 none M243
theorem m244 : M244.AllP TP 1 0 := allP_none m120 m243
def fTab : Tr (FK → FunA) := M244
theorem fTabOk : ∀ k f, fTab.get k = some f → TP k f := tab_of m244
end
end Go.Ab.Tryz
