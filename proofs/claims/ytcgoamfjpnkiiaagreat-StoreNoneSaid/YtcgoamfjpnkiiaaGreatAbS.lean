/- A seat's table of types, checked once. Conditions: none. -/
import Derived.Test.YtcgoamfjpnkiiaaGreatAbR
set_option linter.all false
namespace Go.Ab
noncomputable section
open Go.RowKit

def zs : List (Nat × Value) → List Value
  | [] => []
  | (n, v) :: r => List.replicate n v ++ zs r

/-- Two closed values that are one. -/
def eqZ : Value → Value → Bool
  | .bool a, .bool b => a == b
  | .int k a, .int k' b => decide (k = k') && decide (a = b)
  | .float k a, .float k' b => decide (k = k') && Nat.beq a b
  | .complex k a b, .complex k' a' b' => decide (k = k') && (Nat.beq a a' && Nat.beq b b')
  | .string a, .string b => decide (a.data.toList = b.data.toList)
  | .pointer none, .pointer none => true
  | .slice none a b, .slice none a' b' => Nat.beq a a' && Nat.beq b b'
  | .map none, .map none => true
  | .nilFunc, .nilFunc => true
  | .nilIface, .nilIface => true
  | _, _ => false

theorem eqZ_sound {a b : Value} (h : eqZ a b = true) : a = b ∧ closedS a = true := by
  unfold eqZ at h
  split at h <;> (try simp only [Bool.and_eq_true, decide_eq_true_eq, beq_iff_eq] at h)
  · subst h; exact ⟨rfl, rfl⟩
  · obtain ⟨rfl, rfl⟩ := h; exact ⟨rfl, rfl⟩
  · obtain ⟨rfl, h⟩ := h; rw [Nat.eq_of_beq_eq_true h]; exact ⟨rfl, rfl⟩
  · obtain ⟨rfl, h, h'⟩ := h; rw [Nat.eq_of_beq_eq_true h, Nat.eq_of_beq_eq_true h']; exact ⟨rfl, rfl⟩
  · rename_i a b
    have : a = b := by
      cases a; cases b
      congr 1
      exact Array.toList_inj.1 h
    rw [this]; exact ⟨rfl, rfl⟩
  · exact ⟨rfl, rfl⟩
  · obtain ⟨h, h'⟩ := h; rw [Nat.eq_of_beq_eq_true h, Nat.eq_of_beq_eq_true h']; exact ⟨rfl, rfl⟩
  · exact ⟨rfl, rfl⟩
  · exact ⟨rfl, rfl⟩
  · exact ⟨rfl, rfl⟩
  · cases h

def eqZs : List Value → List Value → Bool
  | [], [] => true
  | a :: as, b :: bs => eqZ a b && eqZs as bs
  | _, _ => false

theorem eqZs_sound : ∀ {as bs : List Value}, eqZs as bs = true → as = bs ∧ ∀ v ∈ as, closedS v = true
  | [], [], _ => ⟨rfl, fun _ h => by cases h⟩
  | a :: as, b :: bs, h => by
    simp only [eqZs, Bool.and_eq_true] at h
    obtain ⟨rfl, h1⟩ := eqZ_sound h.1
    obtain ⟨rfl, h2⟩ := eqZs_sound h.2
    refine ⟨rfl, fun v hv => ?_⟩
    rcases List.mem_cons.1 hv with rfl | hv
    · exact h1
    · exact h2 v hv
  | [], _ :: _, h => by cases h
  | _ :: _, [], h => by cases h

def eqL2 : List (Nat × TypeId) → List (Nat × TypeId) → Bool
  | [], [] => true
  | (a, b) :: as, (a', b') :: bs => Nat.beq a a' && Nat.beq b b' && eqL2 as bs
  | _, _ => false

theorem eqL2_sound : ∀ {as bs : List (Nat × TypeId)}, eqL2 as bs = true → as = bs
  | [], [], _ => rfl
  | (a, b) :: as, (a', b') :: bs, h => by
    simp only [eqL2, Bool.and_eq_true] at h
    rw [Nat.eq_of_beq_eq_true h.1.1, Nat.eq_of_beq_eq_true h.1.2, eqL2_sound h.2]
  | [], _ :: _, h => by cases h
  | _ :: _, [], h => by cases h

def okB : TD → TypeDesc → Bool
  | .bool, .bool => true
  | .int k, .int k' => decide (k = k')
  | .float k, .float k' => decide (k = k')
  | .complex k, .complex k' => decide (k = k')
  | .string, .string => true
  | .pointer e, .pointer e' => Nat.beq e e'
  | .slice e, .slice e' => Nat.beq e e'
  | .array n e, .array n' e' => Nat.beq n n' && Nat.beq e e'
  | .map k e, .map k' e' => Nat.beq k k' && Nat.beq e e'
  | .struct fs, .struct fields => eqL2 fs (fields.toList.map fun f => (f.offset, f.type))
  | .func, .func .. => true
  | .tuple, .tuple _ => true
  | _, _ => false

theorem okB_sound {d : TD} {D : TypeDesc} (h : okB d D = true) : d.ok D := by
  unfold okB at h
  split at h <;> (try simp only [Bool.and_eq_true, decide_eq_true_eq] at h)
  all_goals first
    | cases h; done
    | (simp only [TD.ok]; done)
    | (simp only [TD.ok]; exact h)
    | (simp only [TD.ok]; exact Nat.eq_of_beq_eq_true h)
    | (simp only [TD.ok]; exact ⟨Nat.eq_of_beq_eq_true h.1, Nat.eq_of_beq_eq_true h.2⟩)
    | (simp only [TD.ok]; exact eqL2_sound h)

def zB (d : TD) (zero : List Value) : Option Value → Bool
  | none => false
  | some z => cond d.agg (match z with
      | .agg cs => eqZs zero cs.toList
      | _ => false) (match zero with
      | [y] => eqZ y z
      | _ => false)

def flatB (P : Program) (t : TypeId) : Bool :=
  !P.stoodInHeld t && !P.eqGuardType P.depth t && match P.underlying t with
    | some (.struct fields) => fields.toList.all fun f => !(f.name == "_")
    | _ => true

def checkTI (P : Program) (t : TypeId) (i : TI) : Bool :=
  (match P.underlying t with
    | some D => okB i.d D
    | none => false) &&
  (match P.info? t with
    | some f => Nat.beq f.size i.size && Nat.beq f.bytes i.bytes && zB i.d i.zero f.zero
    | none => false) &&
  Nat.beq i.zero.length i.size && (!i.flat || flatB P t)

theorem checkTI_sound {P : Program} {t : TypeId} {i : TI} (h : checkTI P t i = true) : TyOk1 P t i := by
  unfold checkTI at h
  simp only [Bool.and_eq_true] at h
  obtain ⟨⟨⟨h1, h2⟩, h3⟩, h4⟩ := h
  have hz : ∃ f, P.info? t = some f ∧ f.size = i.size ∧ f.bytes = i.bytes ∧ zB i.d i.zero f.zero = true := by
    split at h2
    · rename_i f hf
      simp only [Bool.and_eq_true] at h2
      exact ⟨f, hf, Nat.eq_of_beq_eq_true h2.1.1, Nat.eq_of_beq_eq_true h2.1.2, h2.2⟩
    · cases h2
  obtain ⟨f, hf, hs, hb, hzb⟩ := hz
  have hz2 : ∃ z, f.zero = some z ∧ z.cells.toList = i.zero ∧ (i.d.agg = false → i.zero = [z]) ∧ (i.d.agg = true → z = .agg i.zero.toArray) ∧ ∀ v ∈ i.zero, closedS v = true := by
    unfold zB at hzb
    split at hzb
    · cases hzb
    · rename_i z hz
      cases ha : i.d.agg with
      | true =>
        rw [ha, cond_true] at hzb
        split at hzb
        · rename_i cs
          obtain ⟨e, hc⟩ := eqZs_sound hzb
          exact ⟨_, hz, by rw [e]; rfl, fun h => (nomatch h), fun _ => by rw [e], hc⟩
        · cases hzb
      | false =>
        rw [ha, cond_false] at hzb
        split at hzb
        · rename_i y hy
          obtain ⟨rfl, hc⟩ := eqZ_sound hzb
          refine ⟨y, hz, ?_, fun _ => hy, fun h => (nomatch h), fun v hv => ?_⟩
          · rw [hy]
            cases y <;> first | rfl | simp [closedS] at hc
          · rw [hy, List.mem_singleton] at hv
            rw [hv]; exact hc
        · cases hzb
  obtain ⟨z, hz, e1, e2, e3, e4⟩ := hz2
  refine ⟨?_, ⟨f, hf, hs, hb, z, hz, e1, e2, e3⟩, Nat.eq_of_beq_eq_true h3, fun hfl => ?_, e4⟩
  · split at h1
    · rename_i D hD; exact ⟨D, hD, okB_sound h1⟩
    · cases h1
  · rw [hfl] at h4
    simp only [Bool.not_true, Bool.false_or, flatB, Bool.and_eq_true, Bool.not_eq_true'] at h4
    refine ⟨h4.1.1, h4.1.2, fun fields hfi => ?_⟩
    have := h4.2
    rw [hfi] at this
    simp only [List.all_eq_true, Bool.not_eq_true', beq_eq_false_iff_ne] at this
    exact this

def Tr.allB {α : Type} (p : Nat → α → Bool) : Tr α → Nat → Nat → Bool
  | .leaf, _, _ => true
  | .node l v r, a, b => (match v with
      | some x => p b x
      | none => true) && l.allB p (2 * a) (a + b) && r.allB p (2 * a) (2 * a + b)

theorem Tr.allB_sound {α : Type} {p : Nat → α → Bool} : ∀ {t : Tr α} {a b : Nat}, t.allB p a b = true → ∀ k x, t.get k = some x → p (a * k + b) x = true
  | .leaf, _, _, _, k, x, hx => by cases hx
  | .node l v r, a, b, h, k, x, hx => by
    simp only [Tr.allB, Bool.and_eq_true] at h
    obtain ⟨⟨h1, h2⟩, h3⟩ := h
    rw [Tr.get_eq] at hx
    simp only [Tr.val, Tr.left, Tr.right] at hx
    split at hx
    · rename_i hk
      subst hk
      rw [hx] at h1
      simpa using h1
    · rename_i hk
      split at hx
      · rename_i ho
        have := Tr.allB_sound h2 _ _ hx
        rw [show a * k + b = 2 * a * (k / 2) + (a + b) by
          have : k = 2 * (k / 2) + 1 := by omega
          conv => lhs; rw [this]
          rw [Nat.mul_add, Nat.mul_one, ← Nat.mul_assoc, Nat.mul_comm a 2, Nat.add_assoc]]
        exact this
      · rename_i ho
        have := Tr.allB_sound h3 _ _ hx
        rw [show a * k + b = 2 * a * (k / 2 - 1) + (2 * a + b) by
          obtain ⟨m, hm⟩ : ∃ m, k = 2 * (m + 1) := ⟨k / 2 - 1, by omega⟩
          subst hm
          rw [show 2 * (m + 1) / 2 - 1 = m by omega, Nat.mul_add 2 m 1, Nat.mul_add, ← Nat.mul_assoc, Nat.mul_comm a 2, Nat.add_assoc]]
        exact this

theorem tyOk_of {P : Program} {T : Tr TI} (h : T.allB (checkTI P) 1 0 = true) : TyOk P T.get := fun t i ht => by
  have := Tr.allB_sound h t i ht
  rw [Nat.one_mul, Nat.add_zero] at this
  exact checkTI_sound this
end
end Go.Ab
