/- A seat's table of functions. Conditions: none. -/
import Derived.Test.YtcgoamfjpnkiiaaGreatAbS
set_option linter.all false
namespace Go.Ab
noncomputable section
open Go.RowKit

def Tr.AllP {α : Type} (p : Nat → α → Prop) : Tr α → Nat → Nat → Prop
  | .leaf, _, _ => True
  | .node l v r, a, b => (match v with
      | some x => p b x
      | none => True) ∧ l.AllP p (2 * a) (a + b) ∧ r.AllP p (2 * a) (2 * a + b)

theorem Tr.allP_leaf {α : Type} {p : Nat → α → Prop} {a b : Nat} : (Tr.leaf : Tr α).AllP p a b := trivial
theorem Tr.allP_some {α : Type} {p : Nat → α → Prop} {l r : Tr α} {x : α} {a b : Nat} (h : p b x) (hl : l.AllP p (2 * a) (a + b)) (hr : r.AllP p (2 * a) (2 * a + b)) : (Tr.node l (some x) r).AllP p a b := ⟨h, hl, hr⟩
theorem Tr.allP_none {α : Type} {p : Nat → α → Prop} {l r : Tr α} {a b : Nat} (hl : l.AllP p (2 * a) (a + b)) (hr : r.AllP p (2 * a) (2 * a + b)) : (Tr.node l none r).AllP p a b := ⟨trivial, hl, hr⟩

theorem Tr.allP_sound {α : Type} {p : Nat → α → Prop} : ∀ {t : Tr α} {a b : Nat}, t.AllP p a b → ∀ k x, t.get k = some x → p (a * k + b) x
  | .leaf, _, _, _, k, x, hx => by cases hx
  | .node l v r, a, b, h, k, x, hx => by
    obtain ⟨h1, h2, h3⟩ := h
    rw [Tr.get_eq] at hx
    simp only [Tr.val, Tr.left, Tr.right] at hx
    split at hx
    · rename_i hk
      subst hk
      rw [hx] at h1
      simpa using h1
    · rename_i hk
      split at hx
      · rename_i ho
        have := Tr.allP_sound h2 _ _ hx
        rw [show a * k + b = 2 * a * (k / 2) + (a + b) by
          have : k = 2 * (k / 2) + 1 := by omega
          conv => lhs; rw [this]
          rw [Nat.mul_add, Nat.mul_one, ← Nat.mul_assoc, Nat.mul_comm a 2, Nat.add_assoc]]
        exact this
      · rename_i ho
        have := Tr.allP_sound h3 _ _ hx
        rw [show a * k + b = 2 * a * (k / 2 - 1) + (2 * a + b) by
          obtain ⟨m, hm⟩ : ∃ m, k = 2 * (m + 1) := ⟨k / 2 - 1, by omega⟩
          subst hm
          rw [show 2 * (m + 1) / 2 - 1 = m by omega, Nat.mul_add 2 m 1, Nat.mul_add, ← Nat.mul_assoc, Nat.mul_comm a 2, Nat.add_assoc]]
        exact this

/-- A function of the program, with a body. -/
def IsFn (P : Program) (k : Nat) (fn : Func) : Prop := P.funcs[k]? = some fn ∧ (fn.body.isSome && !(fn.name == "runtime.NumGoroutine")) = true

def FnOk (P : Program) (T : Tr Func) : Prop := ∀ k fn, T.get k = some fn → IsFn P k fn

theorem fnOk_of {P : Program} {T : Tr Func} (h : T.AllP (IsFn P) 1 0) : FnOk P T := fun k fn hk => by
  have := Tr.allP_sound h k fn hk
  rwa [Nat.one_mul, Nat.add_zero] at this

/-- The functions of a table by their texts, to a depth of calls; some are given ('G'). -/
def deepT (Ty : Types) (T : Tr Func) (ann : FuncId → Ann) (N fuel : Nat) (G : FunT) : Nat → FunT
  | 0 => G
  | d + 1 => fun k => match G k with
    | some f => some f
    | none => match T.get k with
      | some fn => some (runF Ty (deepT Ty T ann N fuel G d) (ann k) N fuel fn)
      | none => none

theorem deepT_sound {P : Program} {Ty : Types} (hT : TyOk P Ty) {T : Tr Func} (hK : FnOk P T) (hm : P.follows .mixedOrders = true) {ann : FuncId → Ann} {N fuel : Nat} {G : FunT} (hG : SoundT P G) : ∀ d, SoundT P (deepT Ty T ann N fuel G d)
  | 0 => hG
  | d + 1 => by
    intro k f hk
    simp only [deepT] at hk
    cases hg : G k with
    | some f' => rw [hg] at hk; cases hk; exact hG k _ hg
    | none =>
      rw [hg] at hk
      cases hfn : T.get k with
      | none => rw [hfn] at hk; cases hk
      | some fn =>
        rw [hfn] at hk
        cases hk
        obtain ⟨h1, hb⟩ := hK k fn hfn
        rw [Bool.and_eq_true] at hb
        exact ⟨⟨fn, h1, hb.1, by simpa using hb.2⟩, runF_sound hT (deepT_sound hT hK hm hG d) hm h1⟩
end
end Go.Ab
