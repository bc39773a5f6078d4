/- The law's first question is answered yes: a given function, sound. Conditions: none. -/
import Derived.Test.YtcgoamfjpnkiiaaGreatAbHb
set_option linter.all false
namespace Go.Ab.Tryz
noncomputable section
open Tr Go.RowKit

theorem isT_some {r : Rz} (h : isT r = true) : ∃ g, r = some (.bool true, g) := by
  unfold isT at h
  split at h
  · exact ⟨_, rfl⟩
  · cases h

theorem wfE : Wf hE := fun id o h => (by cases h)
theorem relE (w : World) : Rel hE (fun _ => none) w := ⟨wfE, fun id o h => (by cases h), fun id id' o o' l l' h => (by cases h)⟩

theorem GS_sound : SoundT Go.Proofs.Tryz.prog GS := by
  intro g f hg
  unfold GS at hg
  cases hb : Nat.beq g 206 with
  | false => rw [hb] at hg; cases hg
  | true =>
    rw [hb] at hg
    cases hg
    have := Nat.eq_of_beq_eq_true hb
    subst this
    exact ⟨⟨Go.Proofs.Tryz.f206, by kernel_rfl, by kernel_rfl, by kernel_rfl⟩, sortedF_sound⟩

/-- What a run over no objects gives, a call in any world comes to; nothing that was there turns. -/
theorem run_closed {G : FunT} (hG : SoundT Go.Proofs.Tryz.prog G) {d : Nat} {g : FuncId} {args : List Value} (ha : ∀ v ∈ args, closedB v = true) (he : isT (deepE fTab G d g args hE) = true) (w : World) :
    Calls Go.Proofs.Tryz.prog g args.toArray w fun e w' => e = .returned (.bool true) ∧ Below w.heap.size w w' := by
  obtain ⟨h', hr⟩ := isT_some he
  have ho : okArgs args = true := by
    unfold okArgs
    rw [List.all_eq_true]
    intro v hv
    rw [closed_undef (ha v hv)]; rfl
  obtain ⟨_, hc⟩ := deepE_sound tyOk fnOk mixed hG fTabOk hr ho wfE
  refine (hc (fun _ => none) w args.toArray (relE w) ⟨by simp, fun i x y hx hy => ?_⟩ (fun _ _ _ => rfl)).mono ?_
  · have hy' : args[i]? = some y := by simpa using hy
    rw [hx] at hy'
    cases hy'
    exact .ofClosed (ha x (List.mem_of_getElem? hx))
  · rintro e w' ⟨v', R', rfl, hs, hv⟩
    cases hv
    exact ⟨rfl, hs.os, hs.tape, hs.output, hs.size, fun b hb => hs.block b hb fun ⟨id, o, l, h1, _⟩ => by cases h1⟩

def begunF : FunA := fun args h => match args with
  | [] => some (.bool true, h)
  | _ => none
theorem begunF_sound : SoundF Go.Proofs.Tryz.prog 14 begunF := by
  intro args h v h' he
  unfold begunF at he
  split at he
  · cases he
    refine ⟨fun _ => Q.refl _, fun R w args' hr hl _ => ?_⟩
    have ha : args' = #[] := by
      apply Array.toList_inj.1
      exact List.length_eq_zero_iff.1 (by have := hl.1; simpa using this.symm)
    subst ha
    refine (run_closed GS_sound (args := []) (fun v hv => by cases hv) begun_run w).mono ?_
    rintro e w' ⟨rfl, hb⟩
    exact ⟨_, R, rfl, step_below hr hb, .bool _⟩
  · cases he

def GB : FunT := fun g => cond (Nat.beq g 14) (some begunF) (GS g)
theorem GB_sound : SoundT Go.Proofs.Tryz.prog GB := by
  intro g f hg
  unfold GB at hg
  cases hb : Nat.beq g 14 with
  | false => rw [hb] at hg; exact GS_sound g f hg
  | true =>
    rw [hb] at hg
    cases hg
    have := Nat.eq_of_beq_eq_true hb
    subst this
    exact ⟨⟨Go.Proofs.Tryz.f14, by kernel_rfl, by kernel_rfl, by kernel_rfl⟩, begunF_sound⟩
end
end Go.Ab.Tryz
