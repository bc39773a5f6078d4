/- Regions that draw their order, on the machine in passing style: what it gives, the machine gives. Conditions: none. -/
import Derived.Test.YtcgoamfjpnkiiaaGreatAbZa
set_option linter.all false
namespace Go.Ab
noncomputable section
open Go.RowKit

/-- What the one frame knows the other one knows. -/
def SubFr (kf ff : Tr Value) : Prop := ∀ t v, kf.get t = some v → ff.get t = some v

theorem closed_undef {v : Value} (h : closedB v = true) : isUndef v = false := by
  cases v <;> first | rfl | (simp [closedB, closedS] at h; done)

theorem SubFr.ev {n : Nat} {kf ff : Tr Value} (hs : SubFr kf ff) (ok : FrOk n ff) (xs : List Operand) : EvLe xs (evalF kf) (evalF ff) := by
  intro x _ v hv
  cases x with
  | tmp t => exact ⟨hs t v hv, (ok t v (hs t v hv)).2⟩
  | const c =>
    simp only [evalF] at hv ⊢
    cases hb : closedB c with
    | false => rw [hb] at hv; cases hv
    | true => rw [hb] at hv; cases hv; exact ⟨rfl, closed_undef hb⟩
  | global g => cases hv
  | func f => cases hv; exact ⟨rfl, rfl⟩

theorem mem_tmpsOf {t : Nat} : ∀ {xs : List Operand}, .tmp t ∈ xs → t ∈ tmpsOf xs
  | [], h => by cases h
  | x :: xs, h => by
    rcases List.mem_cons.1 h with e | h
    · subst e; exact List.mem_cons_self
    · have ih := mem_tmpsOf h
      cases x <;> first | exact List.mem_cons_of_mem _ ih | exact ih

theorem SubFr.evR {n : Nat} {kf ff : Tr Value} (hs : SubFr kf ff) (ok : FrOk n ff) {ops : Array Oper} {o : Oper} : EvLe o.op.operands.toList (evalF kf) (evalRF (readsOf ops o) ff) := by
  intro x hx v hv
  obtain ⟨a, b⟩ := hs.ev ok o.op.operands.toList x hx v hv
  refine ⟨?_, b⟩
  cases x with
  | tmp t =>
    have : (readsOf ops o).contains t = true := by
      simp only [readsOf, List.contains_iff_mem]
      exact List.mem_append_left _ (mem_tmpsOf hx)
    simp only [evalRF, this, cond_true]
    exact a
  | _ => exact a

theorem SubFr.put {n : Nat} {kf ff : Tr Value} (hs : SubFr kf ff) {dst : Option Tmp} {v : Value} {o : Option Value} (ho : ∀ u, o = some u → u = v ∧ isUndef v = false) : SubFr (putO n kf dst o) (putFr n ff dst v) := by
  cases dst with
  | none => exact hs
  | some d =>
    intro t u ht
    simp only [putO, putFr] at ht ⊢
    cases hb : Nat.blt d n with
    | false => rw [hb] at ht; exact hs t u ht
    | true =>
      rw [hb] at ht
      simp only [cond_true, Tr.get_put] at ht ⊢
      by_cases e : t = d
      · rw [if_pos e] at ht ⊢
        obtain ⟨rfl, hu⟩ := ho u ht
        rw [hu]; rfl
      · rw [if_neg e] at ht ⊢
        exact hs t u ht

theorem gVal_some {ops : List Oper} {kf : Tr Value} {j : Nat} {g : Value} (h : gVal ops kf j = some g) : ∃ p d, Fast.get ops j = some p ∧ p.dst = some d ∧ kf.get d = some g := by
  unfold gVal at h
  split at h
  · cases h
  · rename_i p hp
    split at h
    · cases h
    · rename_i d hd
      exact ⟨p, d, hp, hd, h⟩

theorem want_of {n : Nat} {ops : List Oper} {o : Oper} {kf ff : Tr Value} (hs : SubFr kf ff) {j : Nat} {want : Bool} {g : Value} (hg : o.guard = some (j, want)) (h : gVal ops kf j = some g) :
    (∀ b, g = .bool b → wantFr ops o ff = some (b == want)) ∧ (∀ vs, g = .tuple vs → vs.isEmpty = true → wantFr ops o ff = some false) := by
  obtain ⟨p, d, h1, h2, h3⟩ := gVal_some h
  have h4 := hs d g h3
  refine ⟨fun b e => ?_, fun vs e hv => ?_⟩
  · subst e; simp only [wantFr, hg, h1, h2, h4]
  · subst e; simp only [wantFr, hg, h1, h2, h4, hv, cond_true]

theorem want_none {ops : List Oper} {o : Oper} {ff : Tr Value} (hg : o.guard = none) : wantFr ops o ff = some true := by simp only [wantFr, hg]

/-- A guard's two ways. -/
theorem guardV_some {g : Value} {want : Bool} {op : (Value → H → Rz) → Rz} {h : H} {k : Value → H → Rz} {r : Value × H} (he : guardV g want op h k = some r) :
    (∃ b, g = .bool b ∧ (b == want) = true ∧ op k = some r) ∨ (((∃ b, g = .bool b ∧ (b == want) = false) ∨ (∃ vs, g = .tuple vs ∧ vs.isEmpty = true)) ∧ k skipA h = some r) := by
  unfold guardV at he
  split at he
  · rename_i b
    rcases condQ he with ⟨hb, he⟩ | ⟨hb, he⟩
    · exact .inl ⟨b, rfl, hb, he⟩
    · exact .inr ⟨.inl ⟨b, rfl, hb⟩, he⟩
  · rename_i vs
    rcases condQ he with ⟨hb, he⟩ | ⟨_, he⟩
    · exact .inr ⟨.inr ⟨vs, rfl, hb⟩, he⟩
    · cases he
  · cases he
theorem guardE_some {g : Value} {want : Bool} {op : (H → Rz) → Rz} {h : H} {k : H → Rz} {r : Value × H} (he : guardE g want op h k = some r) :
    (∃ b, g = .bool b ∧ (b == want) = true ∧ op k = some r) ∨ (((∃ b, g = .bool b ∧ (b == want) = false) ∨ (∃ vs, g = .tuple vs ∧ vs.isEmpty = true)) ∧ k h = some r) := by
  unfold guardE at he
  split at he
  · rename_i b
    rcases condQ he with ⟨hb, he⟩ | ⟨hb, he⟩
    · exact .inl ⟨b, rfl, hb, he⟩
    · exact .inr ⟨.inl ⟨b, rfl, hb⟩, he⟩
  · rename_i vs
    rcases condQ he with ⟨hb, he⟩ | ⟨_, he⟩
    · exact .inr ⟨.inr ⟨vs, rfl, hb⟩, he⟩
    · cases he
  · cases he
theorem guardD_some {g : Value} {want : Bool} {op : (Value → H → H → Rz) → Rz} {h : H} {k : Value → H → H → Rz} {r : Value × H} (he : guardD g want op h k = some r) :
    (∃ b, g = .bool b ∧ (b == want) = true ∧ op k = some r) ∨ (((∃ b, g = .bool b ∧ (b == want) = false) ∨ (∃ vs, g = .tuple vs ∧ vs.isEmpty = true)) ∧ k skipA h h = some r) := by
  unfold guardD at he
  split at he
  · rename_i b
    rcases condQ he with ⟨hb, he⟩ | ⟨hb, he⟩
    · exact .inl ⟨b, rfl, hb, he⟩
    · exact .inr ⟨.inl ⟨b, rfl, hb⟩, he⟩
  · rename_i vs
    rcases condQ he with ⟨hb, he⟩ | ⟨_, he⟩
    · exact .inr ⟨.inr ⟨vs, rfl, hb⟩, he⟩
    · cases he
  · cases he

theorem want_skip {ops : List Oper} {o : Oper} {kf ff : Tr Value} (hs : SubFr kf ff) {j : Nat} {want : Bool} {g : Value} (hg : o.guard = some (j, want)) (h : gVal ops kf j = some g)
    (hw : (∃ b, g = .bool b ∧ (b == want) = false) ∨ (∃ vs, g = .tuple vs ∧ vs.isEmpty = true)) : wantFr ops o ff = some false := by
  obtain ⟨a, b⟩ := want_of (n := 0) hs hg h
  rcases hw with ⟨c, h1, h2⟩ | ⟨vs, h1, h2⟩
  · rw [a c h1, h2]
  · exact b vs h1 h2

section
variable {Ty : Types} {F : FK} {FT : FunT} {ev ev' : Operand → Option Value}

theorem opE_sound {op : Op} {h : H} {k : H → Rz} {r : Value × H} (hev : EvLe op.operands.toList ev ev') (he : opE Ty ev op h k = some r) :
    ∃ h1, aOp Ty FT ev' op h = some (undefA, h1) ∧ k h1 = some r := by
  have E : ∀ x v, x ∈ op.operands.toList → ev x = some v → ev' x = some v := fun x v hx hv => (hev x hx v hv).1
  cases op with
  | store t x y =>
    obtain ⟨p, hp, he⟩ := oV_some he
    obtain ⟨q, hq, he⟩ := oV_some he
    obtain ⟨i, hi, he⟩ := oV_some he
    obtain ⟨h1, hw, he⟩ := bH_some he
    rw [st_eq hi] at hw
    exact ⟨h1, by simp only [aOp, E x p (by simp [Op.operands]) hp, E y q (by simp [Op.operands]) hq, hw, Option.map_some], he⟩
  | mapUpdate t x y z =>
    obtain ⟨p, hp, he⟩ := oV_some he
    obtain ⟨q, hq, he⟩ := oV_some he
    obtain ⟨u, hu, he⟩ := oV_some he
    obtain ⟨h1, hw, he⟩ := bH_some he
    exact ⟨h1, by simp only [aOp, E x p (by simp [Op.operands]) hp, E y q (by simp [Op.operands]) hq, E z u (by simp [Op.operands]) hu, hw, Option.map_some], he⟩
  | insert t x y z =>
    obtain ⟨p, hp, he⟩ := oV_some he
    obtain ⟨q, hq, he⟩ := oV_some he
    obtain ⟨u, hu, he⟩ := oV_some he
    obtain ⟨h1, hw, he⟩ := bH_some he
    exact ⟨h1, by simp only [aOp, E x p (by simp [Op.operands]) hp, E y q (by simp [Op.operands]) hq, E z u (by simp [Op.operands]) hu, hw, Option.map_some], he⟩
  | entryStore t x y z =>
    obtain ⟨p, hp, he⟩ := oV_some he
    obtain ⟨q, hq, he⟩ := oV_some he
    obtain ⟨u, hu, he⟩ := oV_some he
    obtain ⟨h1, hw, he⟩ := bH_some he
    exact ⟨h1, by simp only [aOp, E x p (by simp [Op.operands]) hp, E y q (by simp [Op.operands]) hq, E z u (by simp [Op.operands]) hu, hw, Option.map_some], he⟩
  | call c =>
    obtain ⟨callee, args, argTypes⟩ := c
    cases callee with
    | invoke r n => simp [opE] at he
    | value f => simp [opE] at he
    | builtin b =>
      by_cases hb : b = .clear
      · subst hb
        simp only [opE] at he
        obtain ⟨vs, hvs, he2⟩ := oV_some he
        clear he
        have h1 := (argsK_some (hev.mono fun y hy => by simp at hy; simp [Op.operands, Call.operands, hy]) hvs).1
        split at he2
        · rename_i t x hts
          obtain ⟨h2, hw, he3⟩ := bH_some he2
          exact ⟨h2, by simp only [aOp, h1, aBuiltin, hts, hw, Option.map_some], he3⟩
        · cases he2
      · cases b <;> first | exact absurd rfl hb | (simp [opE] at he; done)
  | _ => simp [opE] at he

theorem eff_kind {op : Op} (h : isEff op = true) : kindD Ty op = 3 ∨ kindD Ty op = 5 := by
  cases op with
  | call c =>
    obtain ⟨callee, args, argTypes⟩ := c
    cases callee with
    | builtin b => cases b <;> simp [isEff] at h <;> simp [kindD]
    | _ => simp [isEff] at h
  | store => simp [kindD]
  | mapUpdate => simp [kindD]
  | insert => simp [kindD]
  | entryStore => simp [kindD]
  | _ => simp [isEff] at h
end
end
end Go.Ab
