/- The closed facts of a row, each a theorem of its own (together they pass the kernel's lid). -/
import Derived.Test.YtcgoamfjpnkiiaaGreatRows
import Derived.JoinedOf
import Derived.RowKit
set_option linter.all false
namespace Go.Ab.Tryz
open Go.ChangeShapes Go.WideShapes Go.RowKit
noncomputable abbrev thePr : Program := Go.Proofs.YtcgoamfjpnkiiaaGreat.Tryz.pinned.checked.prog
theorem and_mk {a b : Bool} (x : a = true) (y : b = true) : (a && b) = true := by rw [x, y]; rfl
theorem joined_gen {P : Program} (fcLaid : laidOutB P = true) (fcRowed : mapsRowed P = true) (fcStops : (P.stops == []) = true) (fcStopKnobs : (P.stopKnobs == []) = true) (fcKeys : (false == P.plainKeys) = true) (fcHeard : P.stopsHeard = true) (fcEnter : P.mayEnter = true) {f : FuncId} {fn : Func} {s : ChangeSpec} {c : OpenClaim}
    (k1 : c.wf (OpenSpec.ofChange s) = true) (k4 : fn.params.all (P.readableRec ·) = true) (k5 : namedTie P c.named s.vars = true)
    (k6 : (c.stops == []) = true) (k8 : (c.knobs == []) = true)
    (k10 : (c.inPlace == P.inPlace f) = true) (k11 : (c.unfollowed == P.unfollowed f) = true) (k12 : (c.recurses == P.recurses f) = true) (k13 : (c.named == P.varsNamed f) = true)
    (k14 : (c.maps == (fn.params.toList ++ s.plain.varTypes P).any (P.mapsRec ·)) = true)
    (k15 : (c.ifaces == (fn.params.toList ++ s.plain.varTypes P).any (P.ifacesRec ·)) = true)
    (k16 : (c.mapsOut == P.mapsAmong fn.resultTypes.toList) = true)
    (k17 : (c.loops == (fn.params.toList ++ s.plain.varTypes P).any (P.loopsFrom ·)) = true)
    (k17b : (c.wideKeys == (fn.params.toList ++ s.plain.varTypes P ++ fn.resultTypes.toList).any (P.wideKeysFrom ·)) = true)
    (k18 : s.vars.all (P.varReadable ·) = true) (k19 : fn.resultTypes.all (fun t => P.readableRec t && decide (t < P.types.size)) = true)
    (k20 : (c.ifacesOut == fn.resultTypes.toList.any (P.ifacesRec ·)) = true) (k21 : (c.loopsOut == fn.resultTypes.toList.any (P.loopsFrom ·)) = true)
    (k22 : c.plainKeys = false) (k23 : c.shortTexts.isNone = true)
    (k24b : (c.lifted == P.liftsFinal) = true) (k24c : (P.make == some c.make) = true)
    (k25 : (c.kinds == (if c.domain.isEmpty then [] else fn.params.toList.map fun t => match P.underlying t with | some (.int k) => some k | _ => none)) = true)
    (k26 : (c.pinned == c.pinnedBy) = true)
    (k27 : (c.veiled == (fn.params.toList ++ s.plain.varTypes P ++ fn.resultTypes.toList).any (P.veiledRec ·)) = true)
    (k28 : c.veiledFits P fn.params.toList (fn.params.toList ++ s.plain.varTypes P ++ fn.resultTypes.toList) = true) :
    joinedFacts P f fn s c = true := by
  unfold joinedFacts
  have e : (c.plainKeys == P.plainKeys) = true := by rw [k22]; exact fcKeys
  exact and_mk (and_mk (and_mk (and_mk (and_mk (and_mk (and_mk (and_mk (and_mk (and_mk (and_mk (and_mk (and_mk (and_mk (and_mk (and_mk (and_mk (and_mk (and_mk (and_mk (and_mk (and_mk (and_mk (and_mk (and_mk (and_mk (and_mk (and_mk (and_mk (and_mk (and_mk k1 fcLaid) fcRowed) k4) k5) k6) fcStops) k8) fcStopKnobs) k10) k11) k12) k13) k14) k15) k16) k17) k17b) k18) k19) k20) k21) e) k23) fcHeard) fcEnter) k24b) k24c) k25) k26) k27) k28
theorem fcLaid : laidOutB thePr = true := by kernel_rfl
theorem fcRowed : mapsRowed thePr = true := by kernel_rfl
theorem fcStops : (thePr.stops == []) = true := by kernel_rfl
theorem fcStopKnobs : (thePr.stopKnobs == []) = true := by kernel_rfl
theorem fcKeys : (false == thePr.plainKeys) = true := by kernel_rfl
theorem fcHeard : thePr.stopsHeard = true := by kernel_rfl
theorem fcEnter : thePr.mayEnter = true := by kernel_rfl

theorem joined_of {f : FuncId} {fn : Func} {s : ChangeSpec} {c : OpenClaim}
    (k1 : c.wf (OpenSpec.ofChange s) = true) (k4 : fn.params.all (thePr.readableRec ·) = true) (k5 : namedTie thePr c.named s.vars = true)
    (k6 : (c.stops == []) = true) (k8 : (c.knobs == []) = true)
    (k10 : (c.inPlace == thePr.inPlace f) = true) (k11 : (c.unfollowed == thePr.unfollowed f) = true) (k12 : (c.recurses == thePr.recurses f) = true) (k13 : (c.named == thePr.varsNamed f) = true)
    (k14 : (c.maps == (fn.params.toList ++ s.plain.varTypes thePr).any (thePr.mapsRec ·)) = true)
    (k15 : (c.ifaces == (fn.params.toList ++ s.plain.varTypes thePr).any (thePr.ifacesRec ·)) = true)
    (k16 : (c.mapsOut == thePr.mapsAmong fn.resultTypes.toList) = true)
    (k17 : (c.loops == (fn.params.toList ++ s.plain.varTypes thePr).any (thePr.loopsFrom ·)) = true)
    (k17b : (c.wideKeys == (fn.params.toList ++ s.plain.varTypes thePr ++ fn.resultTypes.toList).any (thePr.wideKeysFrom ·)) = true)
    (k18 : s.vars.all (thePr.varReadable ·) = true) (k19 : fn.resultTypes.all (fun t => thePr.readableRec t && decide (t < thePr.types.size)) = true)
    (k20 : (c.ifacesOut == fn.resultTypes.toList.any (thePr.ifacesRec ·)) = true) (k21 : (c.loopsOut == fn.resultTypes.toList.any (thePr.loopsFrom ·)) = true)
    (k22 : c.plainKeys = false) (k23 : c.shortTexts.isNone = true)
    (k24b : (c.lifted == thePr.liftsFinal) = true) (k24c : (thePr.make == some c.make) = true)
    (k25 : (c.kinds == (if c.domain.isEmpty then [] else fn.params.toList.map fun t => match thePr.underlying t with | some (.int k) => some k | _ => none)) = true)
    (k26 : (c.pinned == c.pinnedBy) = true)
    (k27 : (c.veiled == (fn.params.toList ++ s.plain.varTypes thePr ++ fn.resultTypes.toList).any (thePr.veiledRec ·)) = true)
    (k28 : c.veiledFits thePr fn.params.toList (fn.params.toList ++ s.plain.varTypes thePr ++ fn.resultTypes.toList) = true) :
    joinedFacts thePr f fn s c = true :=
  joined_gen fcLaid fcRowed fcStops fcStopKnobs fcKeys fcHeard fcEnter k1 k4 k5 k6 k8 k10 k11 k12 k13 k14 k15 k16 k17 k17b k18 k19 k20 k21 k22 k23 k24b k24c k25 k26 k27 k28
theorem fcLifts : (({ program := "", sum := "", func := "", spec := "" } : OpenClaim).lifted == thePr.liftsFinal) = true := by kernel_rfl
theorem fcMake : (thePr.make == some ({ program := "", sum := "", func := "", spec := "" } : OpenClaim).make) = true := by kernel_rfl
end Go.Ab.Tryz
