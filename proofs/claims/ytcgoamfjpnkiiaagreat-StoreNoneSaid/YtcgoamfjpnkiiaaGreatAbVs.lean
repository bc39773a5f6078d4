/- The library's sorted keys of a map, at the seat: a given function is sound. Conditions: none. -/
import Derived.Test.YtcgoamfjpnkiiaaGreatAbVa
import Derived.Test.YtcgoamfjpnkiiaaGreatAbTy
import Derived.Test.YtcgoamfjpnkiiaaGreatAbFn
import Derived.Test.YtcgoamfjpnkiiaaGreatAbSh
import Derived.Shelf.SlIterI.Nil
import Derived.Shelf.SortM.Plain
import Derived.Shelf.SortM.SortNone
import Derived.Ground.GgzProg
import Derived.Ground.SlgmProg
set_option linter.all false
namespace Go.Proofs
open Go.RowKit Go.Maps Go.Sort Go.Shelf

theorem Tryz.sortsA (m : Nat) : AnyZI.SortsIn Tryz.prog Tryz.sortedA_ren Fence.wide m :=
  ⟨fun blk off cap ss W hH hblk hsz => callsIn_wide.2 (AnyM.slices_Sort_int Tryz.sortA blk off cap ss W hH hblk hsz),
   fun p cap W => callsIn_wide.2 (AnyM.slices_Sort_int_none Tryz.sortA p cap W)⟩

def SortedPost (w : World) (ks : List Int → Prop) (e : Ending) (w' : World) : Prop := ∃ (v : Value) (ss : List Int), e = .returned v ∧ ks ss ∧
      w'.ownsRow w.heap.size 3 1 v ss.length ((ss.mergeSort (fun x y => decide (x ≤ y))).map encZ) ∧ (v = .slice none 0 0 ↔ ss = []) ∧ Below w.heap.size w w'

theorem Tryz.sortedOf (g : Nat) (hg : g = 256 ∨ g = 245) (S : List Int → Prop) (N Bm : Nat) (w : World) (hmax : N ≤ maxLen) (hbytes : N * 8 ≤ 140737488355328) (hseq : SeqGives Fence.wide 2 Tryz.prog g #[.pointer (some ⟨Bm, 0, none⟩)] encZ S N w) :
    Calls Tryz.prog 206 #[.func (.func g) #[] #[.pointer (some ⟨Bm, 0, none⟩)]] w (SortedPost w S) := by
  refine (callsIn_wide (n := 5)).1 ?_
  have eg : ∀ args w, (callFunc g args).run Tryz.prog w = .ok (.enter g args) w := by
    rcases hg with rfl | rfl
    · exact enters_of Tryz.func256 (by kernel_rfl) rfl
    · exact enters_of Tryz.func245 (by kernel_rfl) rfl
  exact AnyZI.sorted_in Tryz.sortedA Fence.wide 5 trivial trivial trivial trivial rfl (by omega) (Tryz.sortsA _) (enters_of Tryz.func244 (by kernel_rfl) rfl) g #[.pointer (some ⟨Bm, 0, none⟩)] trivial eg S N hmax hbytes _ hseq

theorem Tryz.seqA {H : Type} (b nn : Nat) (D0 : DataW H) (R : Value → Option (DataW H × List MemPlace)) (Bm : Nat) (w : World) (hB : Bm < w.heap.size) (hm : w.cell? ⟨Bm, 0, none⟩ = some (.map (some b))) (hown : w.ownsMap Tryz.prog 3 R b nn D0) :
    SeqGives Fence.wide 2 Tryz.prog 256 #[.pointer (some ⟨Bm, 0, none⟩)] encZ (fun ss => ss.Perm (intKeys D0)) (Maps.size D0) w :=
  AnyZI.keys_gives (ρ := Tryz.keysA_ren) { Tryz.keysA with } Fence.wide _ trivial rfl (by omega) Bm b nn D0 w hB hm hown
theorem Tryz.seqB {H : Type} (b nn : Nat) (D0 : DataW H) (R : Value → Option (DataW H × List MemPlace)) (Bm : Nat) (w : World) (hB : Bm < w.heap.size) (hm : w.cell? ⟨Bm, 0, none⟩ = some (.map (some b))) (hown : w.ownsMap Tryz.prog 3 R b nn D0) :
    SeqGives Fence.wide 2 Tryz.prog 245 #[.pointer (some ⟨Bm, 0, none⟩)] encZ (fun ss => ss.Perm (intKeys D0)) (Maps.size D0) w :=
  AnyZI.keys_gives (ρ := Tryz.keysB_ren) { Tryz.keysB with } Fence.wide _ trivial rfl (by omega) Bm b nn D0 w hB hm hown
theorem Tryz.seqA0 (Bm : Nat) (w : World) (hB : Bm < w.heap.size) (hm : w.cell? ⟨Bm, 0, none⟩ = some (.map none)) : SeqGives Fence.wide 2 Tryz.prog 256 #[.pointer (some ⟨Bm, 0, none⟩)] encZ (fun ss : List Int => ss = []) 0 w :=
  AnyZI.keys_gives_nil (ρ := Tryz.keysA_ren) { Tryz.keysA with } Fence.wide _ trivial rfl Bm w hB hm
theorem Tryz.seqB0 (Bm : Nat) (w : World) (hB : Bm < w.heap.size) (hm : w.cell? ⟨Bm, 0, none⟩ = some (.map none)) : SeqGives Fence.wide 2 Tryz.prog 245 #[.pointer (some ⟨Bm, 0, none⟩)] encZ (fun ss : List Int => ss = []) 0 w :=
  AnyZI.keys_gives_nil (ρ := Tryz.keysB_ren) { Tryz.keysB with } Fence.wide _ trivial rfl Bm w hB hm
end Go.Proofs
