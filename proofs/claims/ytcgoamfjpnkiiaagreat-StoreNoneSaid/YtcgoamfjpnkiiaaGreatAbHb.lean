/- The law's first question (does the store do anything yet?) is answered yes: a given function. Conditions: none. -/
import Derived.Test.YtcgoamfjpnkiiaaGreatAbEnT
import Derived.Test.YtcgoamfjpnkiiaaGreatAbVt
set_option linter.all false
namespace Go.Ab.Tryz
noncomputable section
open Tr

def hE : H := { m := .leaf, n := 0, lw := 0 }
def isT (r : Rz) : Bool := match r with
  | some (.bool true, _) => true
  | _ => false
def GS : FunT := fun g => cond (Nat.beq g 206) (some (sortedF [256, 245] 87)) none
set_option maxRecDepth 1000000 in
theorem begun_run : isT (deepE fTab GS 40 14 [] hE) = true := by kernel_rfl

end
end Go.Ab.Tryz
