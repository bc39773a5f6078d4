/-
  No cell of these rows narrows 'for every input' (looked for: loops, veiled, ifaces, maps, wideKeys, modest, calm, conditions, laid).
  DERIVED. THE GIVEN ROWS OF THIS SEAT. 11 by the template 'for every input the law returns true; each argument reads behind the call as it read before'; 0 by the template 'total and deterministic' (their statements: YtcgoamfjpnkiiaaGreatTotals.lean).
  GIVEN WITH THE SEED: the statements are not yours to turn. If you find one false, say at which input.
  Laid BY PROGRAM, IN A SANDBOX (cutbox-rows.mjs): the forced cells as the released guide's own fill.sh prints them over the translation 49a6cfb2c65da7c8… (all of the seat's roots in one cut). By AI agents, Wed Nov 11 2026. No macro, syntax, notation, axiom, sorry.
-/
import Derived.Test.YtcgoamfjpnkiiaaGreatChecked
import GoSem.Claim
import GoSem.ClaimJoined
import GoSem.ClaimMapViews
import Derived.JoinedTies
import Derived.KernelRfl
namespace Go.Proofs.YtcgoamfjpnkiiaaGreat
/- THE CELL 'sum', in the pinned program and in every row, IS THE sha256 OF THE DUMP (.gsa) THAT YtcgoamfjpnkiiaaGreatProg.lean LOADS. Nothing in Lean hashes anything: it is a label: what it is worth is what the hold of that sum in a sandbox is worth. -/
noncomputable def Tryz.pinned : Pinned := { name := "ytcgoamfjpnkiiaagreat", sum := "49a6cfb2c65da7c8d3adc9588d37d9288278ebc624cd41e54a6cca0f0239cf9d", checked := Tryz.checked }
namespace Rows
def none {H : Type} : Left H := { results := [], args := [] }

/-- 'clathrilaw19.StoreMade': WHATEVER THE INPUT: true; the input reads as it did. -/
def storeMadeSpec : ChangeSpec := { name := "storeMade", fn := fun _ => fun
  | [d1, d2] => { results := [.lit (.bool true)], args := [d1, d2] }
  | _ => none }
def storeMadeRow : OpenClaim := { program := "ytcgoamfjpnkiiaagreat", sum := "49a6cfb2c65da7c8d3adc9588d37d9288278ebc624cd41e54a6cca0f0239cf9d", func := "clathri/clathrilaw19.StoreMade", spec := "storeMade", unfollowed := true, recurses := true, plainKeys := false, apart := false }
def StoreMadeSaid : Prop := storeMadeRow.holds Tryz.pinned (OpenSpec.ofChange storeMadeSpec)

/-- ITS FALSE NEIGHBOUR: 'it returns false'. Refute it at one input. -/
def storeMadeWrong : ChangeSpec := { name := "storeMade", fn := fun _ => fun
  | [d1, d2] => { results := [.lit (.bool false)], args := [d1, d2] }
  | _ => none }
def StoreMadeWrongFalsely : Prop := storeMadeRow.holds Tryz.pinned (OpenSpec.ofChange storeMadeWrong)

/-- 'clathrilaw19.StoreLists': WHATEVER THE INPUT: true; the input reads as it did. -/
def storeListsSpec : ChangeSpec := { name := "storeLists", fn := fun _ => fun
  | [d] => { results := [.lit (.bool true)], args := [d] }
  | _ => none }
def storeListsRow : OpenClaim := { program := "ytcgoamfjpnkiiaagreat", sum := "49a6cfb2c65da7c8d3adc9588d37d9288278ebc624cd41e54a6cca0f0239cf9d", func := "clathri/clathrilaw19.StoreLists", spec := "storeLists", unfollowed := true, recurses := true, plainKeys := false, apart := false }
def StoreListsSaid : Prop := storeListsRow.holds Tryz.pinned (OpenSpec.ofChange storeListsSpec)

/-- ITS FALSE NEIGHBOUR: 'it returns false'. Refute it at one input. -/
def storeListsWrong : ChangeSpec := { name := "storeLists", fn := fun _ => fun
  | [d] => { results := [.lit (.bool false)], args := [d] }
  | _ => none }
def StoreListsWrongFalsely : Prop := storeListsRow.holds Tryz.pinned (OpenSpec.ofChange storeListsWrong)

/-- 'clathrilaw19.StoreLinks': WHATEVER THE INPUT: true; the input reads as it did. -/
def storeLinksSpec : ChangeSpec := { name := "storeLinks", fn := fun _ => fun
  | [d] => { results := [.lit (.bool true)], args := [d] }
  | _ => none }
def storeLinksRow : OpenClaim := { program := "ytcgoamfjpnkiiaagreat", sum := "49a6cfb2c65da7c8d3adc9588d37d9288278ebc624cd41e54a6cca0f0239cf9d", func := "clathri/clathrilaw19.StoreLinks", spec := "storeLinks", unfollowed := true, recurses := true, plainKeys := false, apart := false }
def StoreLinksSaid : Prop := storeLinksRow.holds Tryz.pinned (OpenSpec.ofChange storeLinksSpec)

/-- ITS FALSE NEIGHBOUR: 'it returns false'. Refute it at one input. -/
def storeLinksWrong : ChangeSpec := { name := "storeLinks", fn := fun _ => fun
  | [d] => { results := [.lit (.bool false)], args := [d] }
  | _ => none }
def StoreLinksWrongFalsely : Prop := storeLinksRow.holds Tryz.pinned (OpenSpec.ofChange storeLinksWrong)

/-- 'clathrilaw19.StoreMoves': WHATEVER THE INPUT: true; the input reads as it did. -/
def storeMovesSpec : ChangeSpec := { name := "storeMoves", fn := fun _ => fun
  | [d1, d2, d3, d4] => { results := [.lit (.bool true)], args := [d1, d2, d3, d4] }
  | _ => none }
def storeMovesRow : OpenClaim := { program := "ytcgoamfjpnkiiaagreat", sum := "49a6cfb2c65da7c8d3adc9588d37d9288278ebc624cd41e54a6cca0f0239cf9d", func := "clathri/clathrilaw19.StoreMoves", spec := "storeMoves", unfollowed := true, recurses := true, plainKeys := false, apart := false }
def StoreMovesSaid : Prop := storeMovesRow.holds Tryz.pinned (OpenSpec.ofChange storeMovesSpec)

/-- ITS FALSE NEIGHBOUR: 'it returns false'. Refute it at one input. -/
def storeMovesWrong : ChangeSpec := { name := "storeMoves", fn := fun _ => fun
  | [d1, d2, d3, d4] => { results := [.lit (.bool false)], args := [d1, d2, d3, d4] }
  | _ => none }
def StoreMovesWrongFalsely : Prop := storeMovesRow.holds Tryz.pinned (OpenSpec.ofChange storeMovesWrong)

/-- 'clathrilaw19.StoreRing': WHATEVER THE INPUT: true; the input reads as it did. -/
def storeRingSpec : ChangeSpec := { name := "storeRing", fn := fun _ => fun
  | [d1, d2, d3] => { results := [.lit (.bool true)], args := [d1, d2, d3] }
  | _ => none }
def storeRingRow : OpenClaim := { program := "ytcgoamfjpnkiiaagreat", sum := "49a6cfb2c65da7c8d3adc9588d37d9288278ebc624cd41e54a6cca0f0239cf9d", func := "clathri/clathrilaw19.StoreRing", spec := "storeRing", unfollowed := true, recurses := true, plainKeys := false, apart := false }
def StoreRingSaid : Prop := storeRingRow.holds Tryz.pinned (OpenSpec.ofChange storeRingSpec)

/-- ITS FALSE NEIGHBOUR: 'it returns false'. Refute it at one input. -/
def storeRingWrong : ChangeSpec := { name := "storeRing", fn := fun _ => fun
  | [d1, d2, d3] => { results := [.lit (.bool false)], args := [d1, d2, d3] }
  | _ => none }
def StoreRingWrongFalsely : Prop := storeRingRow.holds Tryz.pinned (OpenSpec.ofChange storeRingWrong)

/-- 'clathrilaw19.StoreOver': WHATEVER THE INPUT: true; the input reads as it did. -/
def storeOverSpec : ChangeSpec := { name := "storeOver", fn := fun _ => fun
  | [d1, d2, d3, d4] => { results := [.lit (.bool true)], args := [d1, d2, d3, d4] }
  | _ => none }
def storeOverRow : OpenClaim := { program := "ytcgoamfjpnkiiaagreat", sum := "49a6cfb2c65da7c8d3adc9588d37d9288278ebc624cd41e54a6cca0f0239cf9d", func := "clathri/clathrilaw19.StoreOver", spec := "storeOver", unfollowed := true, recurses := true, plainKeys := false, apart := false }
def StoreOverSaid : Prop := storeOverRow.holds Tryz.pinned (OpenSpec.ofChange storeOverSpec)

/-- ITS FALSE NEIGHBOUR: 'it returns false'. Refute it at one input. -/
def storeOverWrong : ChangeSpec := { name := "storeOver", fn := fun _ => fun
  | [d1, d2, d3, d4] => { results := [.lit (.bool false)], args := [d1, d2, d3, d4] }
  | _ => none }
def StoreOverWrongFalsely : Prop := storeOverRow.holds Tryz.pinned (OpenSpec.ofChange storeOverWrong)

/-- 'clathrilaw19.StoreAll': WHATEVER THE INPUT: true; the input reads as it did. -/
def storeAllSpec : ChangeSpec := { name := "storeAll", fn := fun _ => fun
  | [d1, d2, d3] => { results := [.lit (.bool true)], args := [d1, d2, d3] }
  | _ => none }
def storeAllRow : OpenClaim := { program := "ytcgoamfjpnkiiaagreat", sum := "49a6cfb2c65da7c8d3adc9588d37d9288278ebc624cd41e54a6cca0f0239cf9d", func := "clathri/clathrilaw19.StoreAll", spec := "storeAll", unfollowed := true, recurses := true, plainKeys := false, apart := false }
def StoreAllSaid : Prop := storeAllRow.holds Tryz.pinned (OpenSpec.ofChange storeAllSpec)

/-- ITS FALSE NEIGHBOUR: 'it returns false'. Refute it at one input. -/
def storeAllWrong : ChangeSpec := { name := "storeAll", fn := fun _ => fun
  | [d1, d2, d3] => { results := [.lit (.bool false)], args := [d1, d2, d3] }
  | _ => none }
def StoreAllWrongFalsely : Prop := storeAllRow.holds Tryz.pinned (OpenSpec.ofChange storeAllWrong)

/-- 'clathrilaw19.StoreFails': WHATEVER THE INPUT: true; the input reads as it did. -/
def storeFailsSpec : ChangeSpec := { name := "storeFails", fn := fun _ => fun
  | [d1, d2] => { results := [.lit (.bool true)], args := [d1, d2] }
  | _ => none }
def storeFailsRow : OpenClaim := { program := "ytcgoamfjpnkiiaagreat", sum := "49a6cfb2c65da7c8d3adc9588d37d9288278ebc624cd41e54a6cca0f0239cf9d", func := "clathri/clathrilaw19.StoreFails", spec := "storeFails", unfollowed := true, recurses := true, plainKeys := false, apart := false }
def StoreFailsSaid : Prop := storeFailsRow.holds Tryz.pinned (OpenSpec.ofChange storeFailsSpec)

/-- ITS FALSE NEIGHBOUR: 'it returns false'. Refute it at one input. -/
def storeFailsWrong : ChangeSpec := { name := "storeFails", fn := fun _ => fun
  | [d1, d2] => { results := [.lit (.bool false)], args := [d1, d2] }
  | _ => none }
def StoreFailsWrongFalsely : Prop := storeFailsRow.holds Tryz.pinned (OpenSpec.ofChange storeFailsWrong)

/-- 'clathrilaw19.StoreNone': WHATEVER THE INPUT: true; the input reads as it did. -/
def storeNoneSpec : ChangeSpec := { name := "storeNone", fn := fun _ => fun
  | [d1, d2] => { results := [.lit (.bool true)], args := [d1, d2] }
  | _ => none }
def storeNoneRow : OpenClaim := { program := "ytcgoamfjpnkiiaagreat", sum := "49a6cfb2c65da7c8d3adc9588d37d9288278ebc624cd41e54a6cca0f0239cf9d", func := "clathri/clathrilaw19.StoreNone", spec := "storeNone", unfollowed := true, recurses := true, plainKeys := false, apart := false }
def StoreNoneSaid : Prop := storeNoneRow.holds Tryz.pinned (OpenSpec.ofChange storeNoneSpec)

/-- ITS FALSE NEIGHBOUR: 'it returns false'. Refute it at one input. -/
def storeNoneWrong : ChangeSpec := { name := "storeNone", fn := fun _ => fun
  | [d1, d2] => { results := [.lit (.bool false)], args := [d1, d2] }
  | _ => none }
def StoreNoneWrongFalsely : Prop := storeNoneRow.holds Tryz.pinned (OpenSpec.ofChange storeNoneWrong)

/-- 'clathrilaw19.StoreOpens': WHATEVER THE INPUT: true; the input reads as it did. -/
def storeOpensSpec : ChangeSpec := { name := "storeOpens", fn := fun _ => fun
  | [d1, d2, d3] => { results := [.lit (.bool true)], args := [d1, d2, d3] }
  | _ => none }
def storeOpensRow : OpenClaim := { program := "ytcgoamfjpnkiiaagreat", sum := "49a6cfb2c65da7c8d3adc9588d37d9288278ebc624cd41e54a6cca0f0239cf9d", func := "clathri/clathrilaw19.StoreOpens", spec := "storeOpens", unfollowed := true, recurses := true, plainKeys := false, apart := false }
def StoreOpensSaid : Prop := storeOpensRow.holds Tryz.pinned (OpenSpec.ofChange storeOpensSpec)

/-- ITS FALSE NEIGHBOUR: 'it returns false'. Refute it at one input. -/
def storeOpensWrong : ChangeSpec := { name := "storeOpens", fn := fun _ => fun
  | [d1, d2, d3] => { results := [.lit (.bool false)], args := [d1, d2, d3] }
  | _ => none }
def StoreOpensWrongFalsely : Prop := storeOpensRow.holds Tryz.pinned (OpenSpec.ofChange storeOpensWrong)

/-- 'clathrilaw19.StoreCrashes': WHATEVER THE INPUT: true; the input reads as it did. -/
def storeCrashesSpec : ChangeSpec := { name := "storeCrashes", fn := fun _ => fun
  | [d1, d2, d3, d4, d5] => { results := [.lit (.bool true)], args := [d1, d2, d3, d4, d5] }
  | _ => none }
def storeCrashesRow : OpenClaim := { program := "ytcgoamfjpnkiiaagreat", sum := "49a6cfb2c65da7c8d3adc9588d37d9288278ebc624cd41e54a6cca0f0239cf9d", func := "clathri/clathrilaw19.StoreCrashes", spec := "storeCrashes", unfollowed := true, recurses := true, plainKeys := false, apart := false }
def StoreCrashesSaid : Prop := storeCrashesRow.holds Tryz.pinned (OpenSpec.ofChange storeCrashesSpec)

/-- ITS FALSE NEIGHBOUR: 'it returns false'. Refute it at one input. -/
def storeCrashesWrong : ChangeSpec := { name := "storeCrashes", fn := fun _ => fun
  | [d1, d2, d3, d4, d5] => { results := [.lit (.bool false)], args := [d1, d2, d3, d4, d5] }
  | _ => none }
def StoreCrashesWrongFalsely : Prop := storeCrashesRow.holds Tryz.pinned (OpenSpec.ofChange storeCrashesWrong)

/- THE SECOND FORM. 'bulk': how many values and letters a reading holds, each counted each time it is reached (what is shared counts as often as it is met; a slice's spare places count too). A statement '..UptoSaid' is the law's where the arguments, and the package variables that the reading takes, are together of bulk at most 1048576: NARROWER than '..Said'. Prove '..Said' where nothing that the law and all that it calls make is longer than what came in: it says more and counts as full. Else prove '..UptoSaid'. A law counts once. -/
mutual
def uptoBulk {H : Type} : DataW H → Nat
  | .lit (.string bytes) => bytes.length + 1
  | .lit _ => 1
  | .nil => 1
  | .ptr d => uptoBulk d + 1
  | .slice elems spare => uptoBulkAll elems + uptoBulkAll spare + 1
  | .agg parts => uptoBulkAll parts + 1
  | .iface _ d => uptoBulk d + 1
  | .map entries => uptoBulkEntries entries + 1
  | .held _ => 1
def uptoBulkAll {H : Type} : List (DataW H) → Nat
  | [] => 0
  | d :: r => uptoBulk d + uptoBulkAll r
def uptoBulkEntries {H : Type} : List (Lit × DataW H) → Nat
  | [] => 0
  | x :: r => uptoBulkEntry x + uptoBulkEntries r
def uptoBulkEntry {H : Type} : Lit × DataW H → Nat
  | (.string bytes, d) => bytes.length + uptoBulk d + 1
  | (_, d) => uptoBulk d + 1
 end
def uptoSmall : (H : Type) → List (DataW H) → Bool := fun _ ds => decide (uptoBulkAll ds ≤ 1048576)
def OpenSpec.upto (s : _root_.Go.ChangeSpec) : _root_.Go.OpenSpec := { _root_.Go.OpenSpec.ofChange s with cond := some uptoSmall }

/-- 'clathrilaw19.StoreMade', WHERE WHAT IT READS IS OF BULK AT MOST 1048576: true; the input reads as it did. -/
def storeMadeUptoRow : OpenClaim := { program := "ytcgoamfjpnkiiaagreat", sum := "49a6cfb2c65da7c8d3adc9588d37d9288278ebc624cd41e54a6cca0f0239cf9d", func := "clathri/clathrilaw19.StoreMade", spec := "storeMade", unfollowed := true, recurses := true, plainKeys := false, apart := false, narrowed := true }
def StoreMadeUptoSaid : Prop := storeMadeUptoRow.holds Tryz.pinned (OpenSpec.upto storeMadeSpec)

/-- 'clathrilaw19.StoreLists', WHERE WHAT IT READS IS OF BULK AT MOST 1048576: true; the input reads as it did. -/
def storeListsUptoRow : OpenClaim := { program := "ytcgoamfjpnkiiaagreat", sum := "49a6cfb2c65da7c8d3adc9588d37d9288278ebc624cd41e54a6cca0f0239cf9d", func := "clathri/clathrilaw19.StoreLists", spec := "storeLists", unfollowed := true, recurses := true, plainKeys := false, apart := false, narrowed := true }
def StoreListsUptoSaid : Prop := storeListsUptoRow.holds Tryz.pinned (OpenSpec.upto storeListsSpec)

/-- 'clathrilaw19.StoreLinks', WHERE WHAT IT READS IS OF BULK AT MOST 1048576: true; the input reads as it did. -/
def storeLinksUptoRow : OpenClaim := { program := "ytcgoamfjpnkiiaagreat", sum := "49a6cfb2c65da7c8d3adc9588d37d9288278ebc624cd41e54a6cca0f0239cf9d", func := "clathri/clathrilaw19.StoreLinks", spec := "storeLinks", unfollowed := true, recurses := true, plainKeys := false, apart := false, narrowed := true }
def StoreLinksUptoSaid : Prop := storeLinksUptoRow.holds Tryz.pinned (OpenSpec.upto storeLinksSpec)

/-- 'clathrilaw19.StoreMoves', WHERE WHAT IT READS IS OF BULK AT MOST 1048576: true; the input reads as it did. -/
def storeMovesUptoRow : OpenClaim := { program := "ytcgoamfjpnkiiaagreat", sum := "49a6cfb2c65da7c8d3adc9588d37d9288278ebc624cd41e54a6cca0f0239cf9d", func := "clathri/clathrilaw19.StoreMoves", spec := "storeMoves", unfollowed := true, recurses := true, plainKeys := false, apart := false, narrowed := true }
def StoreMovesUptoSaid : Prop := storeMovesUptoRow.holds Tryz.pinned (OpenSpec.upto storeMovesSpec)

/-- 'clathrilaw19.StoreRing', WHERE WHAT IT READS IS OF BULK AT MOST 1048576: true; the input reads as it did. -/
def storeRingUptoRow : OpenClaim := { program := "ytcgoamfjpnkiiaagreat", sum := "49a6cfb2c65da7c8d3adc9588d37d9288278ebc624cd41e54a6cca0f0239cf9d", func := "clathri/clathrilaw19.StoreRing", spec := "storeRing", unfollowed := true, recurses := true, plainKeys := false, apart := false, narrowed := true }
def StoreRingUptoSaid : Prop := storeRingUptoRow.holds Tryz.pinned (OpenSpec.upto storeRingSpec)

/-- 'clathrilaw19.StoreOver', WHERE WHAT IT READS IS OF BULK AT MOST 1048576: true; the input reads as it did. -/
def storeOverUptoRow : OpenClaim := { program := "ytcgoamfjpnkiiaagreat", sum := "49a6cfb2c65da7c8d3adc9588d37d9288278ebc624cd41e54a6cca0f0239cf9d", func := "clathri/clathrilaw19.StoreOver", spec := "storeOver", unfollowed := true, recurses := true, plainKeys := false, apart := false, narrowed := true }
def StoreOverUptoSaid : Prop := storeOverUptoRow.holds Tryz.pinned (OpenSpec.upto storeOverSpec)

/-- 'clathrilaw19.StoreAll', WHERE WHAT IT READS IS OF BULK AT MOST 1048576: true; the input reads as it did. -/
def storeAllUptoRow : OpenClaim := { program := "ytcgoamfjpnkiiaagreat", sum := "49a6cfb2c65da7c8d3adc9588d37d9288278ebc624cd41e54a6cca0f0239cf9d", func := "clathri/clathrilaw19.StoreAll", spec := "storeAll", unfollowed := true, recurses := true, plainKeys := false, apart := false, narrowed := true }
def StoreAllUptoSaid : Prop := storeAllUptoRow.holds Tryz.pinned (OpenSpec.upto storeAllSpec)

/-- 'clathrilaw19.StoreFails', WHERE WHAT IT READS IS OF BULK AT MOST 1048576: true; the input reads as it did. -/
def storeFailsUptoRow : OpenClaim := { program := "ytcgoamfjpnkiiaagreat", sum := "49a6cfb2c65da7c8d3adc9588d37d9288278ebc624cd41e54a6cca0f0239cf9d", func := "clathri/clathrilaw19.StoreFails", spec := "storeFails", unfollowed := true, recurses := true, plainKeys := false, apart := false, narrowed := true }
def StoreFailsUptoSaid : Prop := storeFailsUptoRow.holds Tryz.pinned (OpenSpec.upto storeFailsSpec)

/-- 'clathrilaw19.StoreNone', WHERE WHAT IT READS IS OF BULK AT MOST 1048576: true; the input reads as it did. -/
def storeNoneUptoRow : OpenClaim := { program := "ytcgoamfjpnkiiaagreat", sum := "49a6cfb2c65da7c8d3adc9588d37d9288278ebc624cd41e54a6cca0f0239cf9d", func := "clathri/clathrilaw19.StoreNone", spec := "storeNone", unfollowed := true, recurses := true, plainKeys := false, apart := false, narrowed := true }
def StoreNoneUptoSaid : Prop := storeNoneUptoRow.holds Tryz.pinned (OpenSpec.upto storeNoneSpec)

/-- 'clathrilaw19.StoreOpens', WHERE WHAT IT READS IS OF BULK AT MOST 1048576: true; the input reads as it did. -/
def storeOpensUptoRow : OpenClaim := { program := "ytcgoamfjpnkiiaagreat", sum := "49a6cfb2c65da7c8d3adc9588d37d9288278ebc624cd41e54a6cca0f0239cf9d", func := "clathri/clathrilaw19.StoreOpens", spec := "storeOpens", unfollowed := true, recurses := true, plainKeys := false, apart := false, narrowed := true }
def StoreOpensUptoSaid : Prop := storeOpensUptoRow.holds Tryz.pinned (OpenSpec.upto storeOpensSpec)

/-- 'clathrilaw19.StoreCrashes', WHERE WHAT IT READS IS OF BULK AT MOST 1048576: true; the input reads as it did. -/
def storeCrashesUptoRow : OpenClaim := { program := "ytcgoamfjpnkiiaagreat", sum := "49a6cfb2c65da7c8d3adc9588d37d9288278ebc624cd41e54a6cca0f0239cf9d", func := "clathri/clathrilaw19.StoreCrashes", spec := "storeCrashes", unfollowed := true, recurses := true, plainKeys := false, apart := false, narrowed := true }
def StoreCrashesUptoSaid : Prop := storeCrashesUptoRow.holds Tryz.pinned (OpenSpec.upto storeCrashesSpec)

end Rows
end Go.Proofs.YtcgoamfjpnkiiaaGreat
