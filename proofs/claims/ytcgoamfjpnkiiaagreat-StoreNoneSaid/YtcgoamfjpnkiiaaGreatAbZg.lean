/- A table of frame-free functions: what they give, the machine gives. Conditions: none. -/
import Derived.Test.YtcgoamfjpnkiiaaGreatAbZf
set_option linter.all false
namespace Go.Ab
noncomputable section
open Go.RowKit

/-- A table's functions are what the machine makes of the texts. -/
def TabP (Ty : Types) (T : Tr Func) (lv : Nat → Lv) (jv : Nat → Jn) (N fuel : Nat) (k : Nat) (f : FK → FunA) : Prop :=
  ∃ fn, T.get k = some fn ∧ ∀ F args h r, f F args h = some r → runK Ty F (lv k) (jv k) N fuel fn args h = some r

def deepE (fT : Tr (FK → FunA)) (G : FunT) (d : Nat) : FK :=
  Nat.rec (motive := fun _ => FK) (fun g args h => match G g with
    | some f => f args h
    | none => none) (fun _ ih g args h => match G g with
    | some f => f args h
    | none => match fT.get g with
      | some f => f ih args h
      | none => none) d

section
variable {P : Program} {Ty : Types} {T : Tr Func} {lv : Nat → Lv} {jv : Nat → Jn} {N fuel : Nat} {G : FunT} {fT : Tr (FK → FunA)}

theorem deepE_le (hT : TyOk P Ty) (hK : FnOk P T) (hm : P.follows .mixedOrders = true) (hG : SoundT P G) (hf : ∀ k f, fT.get k = some f → TabP Ty T lv jv N fuel k f) : ∀ d, LeF (deepE fT G d) (deepTF Ty T (N + 1) fuel G d)
  | 0 => by
    intro g args h v h1 he _ _
    change (match G g with
      | some f => f args h
      | none => none) = some (v, h1) at he
    cases hg : G g with
    | none => rw [hg] at he; cases he
    | some f => rw [hg] at he; exact ⟨f, hg, he⟩
  | d + 1 => by
    intro g args h v h1 he hW ho
    change (match G g with
      | some f => f args h
      | none => match fT.get g with
        | some f => f (deepE fT G d) args h
        | none => none) = some (v, h1) at he
    cases hg : G g with
    | some f =>
      rw [hg] at he
      exact ⟨f, by
        show (match G g with
          | some f => some f
          | none => match T.get g with
            | some fn => some (runFF Ty (deepTF Ty T (N + 1) fuel G d) (N + 1) fuel fn)
            | none => none) = some f
        rw [hg], he⟩
    | none =>
      rw [hg] at he
      cases hfn : fT.get g with
      | none => rw [hfn] at he; cases he
      | some f =>
        rw [hfn] at he
        obtain ⟨fn, h1', h2⟩ := hf g f hfn
        refine ⟨runFF Ty (deepTF Ty T (N + 1) fuel G d) (N + 1) fuel fn, by
          show (match G g with
            | some f => some f
            | none => match T.get g with
              | some fn => some (runFF Ty (deepTF Ty T (N + 1) fuel G d) (N + 1) fuel fn)
              | none => none) = _
          rw [hg, h1'], ?_⟩
        exact runK_sound (deepE_le hT hK hm hG hf d) (deepTF_sound hT hK hm hG d).q hW ho (h2 _ _ _ _ he)

/-- What the table's functions give, a call comes to. -/
theorem deepE_sound (hT : TyOk P Ty) (hK : FnOk P T) (hm : P.follows .mixedOrders = true) (hG : SoundT P G) (hf : ∀ k f, fT.get k = some f → TabP Ty T lv jv N fuel k f) {d : Nat} {g : FuncId} {args : List Value} {h h' : H} {v : Value}
    (he : deepE fT G d g args h = some (v, h')) (ho : okArgs args = true) (hW : Wf h) :
    Q h h' ∧ ∀ (R : Ren) (w : World) (args' : Array Value), Rel h R w → LR R args args'.toList → (∀ id, h.n ≤ id → id < h'.n → R id = none) →
      Calls P g args' w fun e w' => ∃ v' R', e = .returned v' ∧ Step h R w h' R' w' ∧ VR R' v v' := by
  obtain ⟨f, h1, h2⟩ := deepE_le hT hK hm hG hf d g args h v h' he hW ho
  obtain ⟨a, b⟩ := (deepTF_sound hT hK hm hG d g f h1).2 args h v h' h2
  exact ⟨a hW, b⟩

theorem tab_of {p : Nat → (FK → FunA) → Prop} {t : Tr (FK → FunA)} (h : t.AllP p 1 0) : ∀ k f, t.get k = some f → p k f := fun k f hk => by
  have := Tr.allP_sound h k f hk
  rwa [Nat.one_mul, Nat.add_zero] at this
end
end
end Go.Ab
