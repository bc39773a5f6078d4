/- StoreNone: whatever the ID and the name, the law returns true and its input reads as it did. Conditions: none. -/
import Derived.Test.YtcgoamfjpnkiiaaGreatRows
import Derived.JoinedOf
import Derived.RowKit
import Derived.Test.YtcgoamfjpnkiiaaGreatAbRf
import Derived.Test.YtcgoamfjpnkiiaaGreatAbNq
set_option linter.all false
namespace Go.Proofs.YtcgoamfjpnkiiaaGreat.storeNone
open Go.ChangeShapes Go.WideShapes Go.RowKit Go.Ab.Tryz
set_option linter.unusedVariables false
theorem fcNamed : Go.Proofs.YtcgoamfjpnkiiaaGreat.Tryz.pinned.checked.prog.funcNamed Rows.storeNoneRow.func = some 11 := by kernel_rfl
theorem fcInPlace : (Rows.storeNoneRow.inPlace == thePr.inPlace 11) = true := by kernel_rfl
theorem fcUnf : (Rows.storeNoneRow.unfollowed == thePr.unfollowed 11) = true := by kernel_rfl
theorem fcRec : (Rows.storeNoneRow.recurses == thePr.recurses 11) = true := by kernel_rfl
theorem fcVars : (Rows.storeNoneRow.named == thePr.varsNamed 11) = true := by kernel_rfl
theorem fcMaps : (Rows.storeNoneRow.mapsOut == thePr.mapsAmong Tryz.f11.resultTypes.toList) = true := by kernel_rfl
theorem fcLoops : (Rows.storeNoneRow.loopsOut == Tryz.f11.resultTypes.toList.any (thePr.loopsFrom ·)) = true := by kernel_rfl
theorem fcVeil : (Rows.storeNoneRow.veiled == (Tryz.f11.params.toList ++ Rows.storeNoneSpec.plain.varTypes thePr ++ Tryz.f11.resultTypes.toList).any (thePr.veiledRec ·)) = true := by kernel_rfl
theorem fcFits : Rows.storeNoneRow.veiledFits thePr Tryz.f11.params.toList (Tryz.f11.params.toList ++ Rows.storeNoneSpec.plain.varTypes thePr ++ Tryz.f11.resultTypes.toList) = true := by kernel_rfl
theorem fcJoined : joinedFacts thePr 11 Tryz.f11 Rows.storeNoneSpec Rows.storeNoneRow = true :=
  joined_of (by kernel_rfl) (by kernel_rfl) (by kernel_rfl) (by kernel_rfl) (by kernel_rfl) fcInPlace fcUnf fcRec fcVars
    (by kernel_rfl) (by kernel_rfl) fcMaps (by kernel_rfl) (by kernel_rfl) (by kernel_rfl) (by kernel_rfl) (by kernel_rfl) fcLoops (by kernel_rfl) (by kernel_rfl) fcLifts fcMake (by kernel_rfl) (by kernel_rfl) fcVeil fcFits
theorem fcInst : Tryz.f11.isInstance thePr Rows.storeNoneRow.origin Rows.storeNoneRow.targs := of_decide_eq_true (by kernel_rfl)
theorem fcWrap : Tryz.f11.isWrapper thePr Rows.storeNoneRow.wrapper Rows.storeNoneRow.mainSum := by
  unfold Func.isWrapper; first | (rw [if_pos (by decide +kernel)]; kernel_rfl) | (rw [if_neg (by decide +kernel)]; exact ⟨rfl, rfl⟩)
theorem over : Rows.storeNoneRow.holds Tryz.pinned (OpenSpec.ofChange Rows.storeNoneSpec) :=
  OpenClaim.holds_of_wide 11 Tryz.f11 rfl rfl rfl rfl rfl rfl rfl ⟨rfl, rfl, rfl, rfl, rfl⟩ rfl rfl rfl rfl rfl fcNamed Tryz.func11 fcJoined fcInst fcWrap
    (fun os started H enc _ => lifted os started H enc)

/-- ████ THE STATEMENT ████ -/
theorem proved : Rows.StoreNoneSaid :=
  over
#print axioms proved
end Go.Proofs.YtcgoamfjpnkiiaaGreat.storeNone
