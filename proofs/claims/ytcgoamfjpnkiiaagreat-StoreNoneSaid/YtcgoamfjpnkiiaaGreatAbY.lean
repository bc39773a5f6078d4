/- The machine in passing style, one operation: what it gives, the machine gives. Conditions: none. -/
import Derived.Test.YtcgoamfjpnkiiaaGreatAbX
set_option linter.all false
namespace Go.Ab
noncomputable section
open Go.RowKit

theorem oV_some {α β : Type} {o : Option α} {k : α → Option β} {r : β} (h : oV o k = some r) : ∃ v, o = some v ∧ k v = some r := by
  cases o with
  | none => cases h
  | some v => exact ⟨v, rfl, h⟩
theorem bV_some {o : Option Value} {k : Value → Rz} {r : Value × H} (h : bV o k = some r) : ∃ v, o = some v ∧ isUndef v = false ∧ k v = some r := by
  cases o with
  | none => cases h
  | some v =>
    change Bool.rec (motive := fun _ => Rz) (k v) none (isUndef v) = some r at h
    cases hu : isUndef v with
    | true => rw [hu] at h; cases h
    | false => rw [hu] at h; exact ⟨v, rfl, hu, h⟩
theorem bVH_some {o : Rz} {k : Value → H → Rz} {r : Value × H} (h : bVH o k = some r) : ∃ v h1, o = some (v, h1) ∧ isUndef v = false ∧ k v h1 = some r := by
  cases o with
  | none => cases h
  | some p =>
    obtain ⟨v, h1⟩ := p
    change Bool.rec (motive := fun _ => Rz) (k v h1) none (isUndef v) = some r at h
    cases hu : isUndef v with
    | true => rw [hu] at h; cases h
    | false => rw [hu] at h; exact ⟨v, h1, rfl, hu, h⟩
theorem bH_some {o : Option H} {k : H → Rz} {r : Value × H} (h : bH o k = some r) : ∃ h1, o = some h1 ∧ k h1 = some r := by
  cases o with
  | none => cases h
  | some h1 => exact ⟨h1, rfl, h⟩

/-- What the one knows the other knows. -/
def LeF (F : FK) (FT : FunT) : Prop := ∀ g args h v h1, F g args h = some (v, h1) → Wf h → okArgs args = true → ∃ f, FT g = some f ∧ f args h = some (v, h1)
def EvLe (xs : List Operand) (ev ev' : Operand → Option Value) : Prop := ∀ x, x ∈ xs → ∀ v, ev x = some v → ev' x = some v ∧ isUndef v = false

theorem EvLe.mono {xs ys : List Operand} {ev ev' : Operand → Option Value} (h : EvLe xs ev ev') (hs : ∀ y, y ∈ ys → y ∈ xs) : EvLe ys ev ev' := fun x hx => h x (hs x hx)

theorem argsK_some {ev ev' : Operand → Option Value} : ∀ {xs : List Operand} {vs : List Value}, EvLe xs ev ev' → argsK ev xs = some vs → aMapM ev' xs = some vs ∧ okArgs vs = true
  | [], vs, _, h => by simp only [argsK, Option.some.injEq] at h; subst h; exact ⟨rfl, rfl⟩
  | x :: xs, vs, he, h => by
    simp only [argsK] at h
    split at h
    · rename_i v hv
      split at h
      · rename_i us hus
        cases h
        obtain ⟨a, b⟩ := argsK_some (he.mono fun y hy => List.mem_cons_of_mem _ hy) hus
        obtain ⟨c, d⟩ := he x List.mem_cons_self v hv
        exact ⟨by simp only [aMapM, c, a], by simp only [okArgs, List.all_cons, d, Bool.not_false, Bool.true_and]; exact b⟩
      · cases h
    · cases h

theorem aParts_mono {ev ev' : Operand → Option Value} : ∀ {xs : List (Nat × Operand)} {vs : List (Nat × Value)}, EvLe (xs.map (·.2)) ev ev' → aParts ev xs = some vs → aParts ev' xs = some vs
  | [], vs, _, h => h
  | (i, x) :: xs, vs, he, h => by
    simp only [aParts] at h ⊢
    split at h
    · rename_i v us hv hus
      rw [aParts_mono (he.mono fun y hy => List.mem_cons_of_mem _ hy) hus, (he x (by simp) v hv).1]
      exact h
    · cases h

theorem aOpt_mono {ev ev' : Operand → Option Value} {o : Option Operand} {v : Option Value} (he : EvLe o.toList ev ev') (h : aOpt ev o = some v) : aOpt ev' o = some v := by
  cases o with
  | none => exact h
  | some x =>
    simp only [aOpt, Option.map_eq_some_iff] at h ⊢
    obtain ⟨u, hu, rfl⟩ := h
    exact ⟨u, (he x (by simp) u hu).1, rfl⟩

theorem ld_eq {Ty : Types} {t : TypeId} {i : TI} (ht : Ty t = some i) (h : H) (x : Value) : ld i h x = aLoad Ty h t x := by
  have key : ∀ id off, ld i h (.pointer (some ⟨id, off, none⟩)) = aLoad Ty h t (.pointer (some ⟨id, off, none⟩)) := by
    intro id off
    simp only [ld, aLoad]
    cases hg : h.get id with
    | none => rfl
    | some o =>
      cases o with
      | cells cs tg ro =>
        simp only [aPart, ht, ldT, Fast.get_eq]
        cases i.d.agg with
        | false => rfl
        | true =>
          simp only [cond_true]
          cases seg cs off i.size <;> rfl
      | _ => rfl
  unfold ld
  split
  · rename_i id off; exact key id off
  · rename_i hn
    unfold aLoad
    split
    · rename_i id off; exact absurd rfl (hn id off)
    · rfl

theorem st_eq {Ty : Types} {t : TypeId} {i : TI} (ht : Ty t = some i) (h : H) (x v : Value) : st i h x v = aStore Ty h t x v := by
  unfold st aStore
  split
  · simp only [ht]
  · rename_i hn
    split
    · rename_i id off _ _; exact absurd rfl (hn id off)
    · rfl

theorem fa_eq {Ty : Types} {t : TypeId} {i : TI} {fs : List (Nat × TypeId)} {f : Nat} {p : Nat × TypeId} {j : TI} (ht : Ty t = some i) (hd : i.d = .struct fs) (hf : fs[f]? = some p) (hj : Ty p.2 = some j) (hz : Nat.beq j.size 0 = false) {x v : Value} (h : fa p.1 x = some v) :
    aFieldAddr Ty t x f = some v := by
  unfold fa at h
  obtain ⟨d, a, b, c, e⟩ := i
  simp only at hd
  subst hd
  split at h
  · simp only [aFieldAddr, ht, hf, hj, hz, cond_false]
    exact h
  · cases h

section
variable {Ty : Types} {F : FK} {FT : FunT} {ev ev' : Operand → Option Value}

theorem opV_sound (hF : LeF F FT) (hfn : ∀ g, ev' (.func g) = some (.func (.func g) #[] #[])) {op : Op} {h : H} (hW : Wf h) {k : Value → H → Rz} {r : Value × H} (hev : EvLe op.operands.toList ev ev') (he : opV Ty F ev op h k = some r) :
    ∃ v h1, aOp Ty FT ev' op h = some (v, h1) ∧ isUndef v = false ∧ k v h1 = some r := by
  have E : ∀ x v, x ∈ op.operands.toList → ev x = some v → ev' x = some v ∧ isUndef v = false := fun x v hx hv => hev x hx v hv
  cases op with
  | move x =>
    obtain ⟨v, hv, hk⟩ := oV_some he
    obtain ⟨a, b⟩ := E x v (by simp [Op.operands]) hv
    exact ⟨v, h, by simp [aOp, a], b, hk⟩
  | assign x =>
    obtain ⟨v, hv, hk⟩ := oV_some he
    obtain ⟨a, b⟩ := E x v (by simp [Op.operands]) hv
    exact ⟨v, h, by simp [aOp, a], b, hk⟩
  | pick c x y =>
    obtain ⟨g, hg, he1⟩ := oV_some he
    obtain ⟨u, hu, he2⟩ := oV_some he1
    obtain ⟨w, hw, he3⟩ := oV_some he2
    clear he he1 he2
    obtain ⟨a1, b1⟩ := E c g (by simp [Op.operands]) hg
    obtain ⟨a2, b2⟩ := E x u (by simp [Op.operands]) hu
    obtain ⟨a3, b3⟩ := E y w (by simp [Op.operands]) hw
    unfold pickK at he3
    split at he3
    · rename_i t
      refine ⟨cond t u w, h, ?_, by cases t <;> assumption, he3⟩
      cases t <;> simp [aOp, a1, a2, a3]
    · cases he3
  | alloc e =>
    obtain ⟨i, hi, he⟩ := oV_some he
    exact ⟨_, _, by simp only [aOp, aAlloc, hi], rfl, he⟩
  | box e x =>
    obtain ⟨v, hv, he⟩ := oV_some he
    obtain ⟨a, b⟩ := E x v (by simp [Op.operands]) hv
    exact ⟨_, _, by simp only [aOp, a, Option.map_some, aBox], rfl, he⟩
  | build t parts =>
    obtain ⟨ps, hps, he⟩ := oV_some he
    obtain ⟨v, hv, hu, he⟩ := bV_some he
    have := aParts_mono (hev.mono fun y hy => by simpa [Op.operands] using hy) hps
    exact ⟨v, h, by simp only [aOp, this, hv, Option.map_some], hu, he⟩
  | buildSlice t len parts =>
    obtain ⟨ps, hps, he⟩ := oV_some he
    obtain ⟨v, h1, hv, hu, he⟩ := bVH_some he
    have := aParts_mono (hev.mono fun y hy => by simpa [Op.operands] using hy) hps
    exact ⟨v, h1, by simp only [aOp, this, hv], hu, he⟩
  | load t x =>
    obtain ⟨p, hp, he⟩ := oV_some he
    obtain ⟨i, hi, he⟩ := oV_some he
    obtain ⟨v, hv, hu, he⟩ := bV_some he
    obtain ⟨a, b⟩ := E x p (by simp [Op.operands]) hp
    rw [ld_eq hi] at hv
    exact ⟨v, h, by simp only [aOp, a, hv, Option.map_some], hu, he⟩
  | nilCheck x =>
    obtain ⟨p, hp, he⟩ := oV_some he
    obtain ⟨v, hv, hu, he⟩ := bV_some he
    obtain ⟨a, b⟩ := E x p (by simp [Op.operands]) hp
    exact ⟨v, h, by simp only [aOp, a, hv, Option.map_some], hu, he⟩
  | binOp op t x y ty =>
    obtain ⟨p, hp, he⟩ := oV_some he
    obtain ⟨q, hq, he⟩ := oV_some he
    obtain ⟨v, hv, hu, he⟩ := bV_some he
    obtain ⟨a, b⟩ := E x p (by simp [Op.operands]) hp
    obtain ⟨a2, b2⟩ := E y q (by simp [Op.operands]) hq
    exact ⟨v, h, by simp only [aOp, a, a2, hv, Option.map_some], hu, he⟩
  | unOp op t x =>
    obtain ⟨p, hp, he⟩ := oV_some he
    obtain ⟨v, hv, hu, he⟩ := bV_some he
    obtain ⟨a, b⟩ := E x p (by simp [Op.operands]) hp
    exact ⟨v, h, by simp only [aOp, a, hv, Option.map_some], hu, he⟩
  | convert src dst x =>
    obtain ⟨p, hp, he⟩ := oV_some he
    obtain ⟨i, hi, he⟩ := oV_some he
    obtain ⟨j, hj, he⟩ := oV_some he
    obtain ⟨a, b⟩ := E x p (by simp [Op.operands]) hp
    split at he
    · obtain ⟨v, hv, hu, he⟩ := bV_some he
      exact ⟨v, h, by simp only [aOp, a, hi, hv], hu, he⟩
    · obtain ⟨v, h1, hv, hu, he⟩ := bVH_some he
      refine ⟨v, h1, ?_, hu, he⟩
      simp only [aOp, a, hi]
      exact hv
  | makeFunc fn first captured =>
    obtain ⟨us, hus, he⟩ := oV_some he
    obtain ⟨vs, hvs, he⟩ := oV_some he
    have h1 := argsK_some (hev.mono fun y hy => by simp [Op.operands]; simp at hy; exact .inl hy) hus
    have h2 := argsK_some (hev.mono fun y hy => by simp [Op.operands]; simp at hy; exact .inr hy) hvs
    exact ⟨_, h, by simp only [aOp, h1.1, h2.1], rfl, he⟩
  | makeMap t q =>
    cases q with
    | none => exact ⟨_, _, by simp only [aOp], rfl, he⟩
    | some _ => cases he
  | makeSlice t l c =>
    obtain ⟨p, hp, he⟩ := oV_some he
    obtain ⟨q, hq, he⟩ := oV_some he
    obtain ⟨v, h1, hv, hu, he⟩ := bVH_some he
    obtain ⟨a, b⟩ := E l p (by simp [Op.operands]) hp
    obtain ⟨a2, b2⟩ := E c q (by simp [Op.operands]) hq
    exact ⟨v, h1, by simp only [aOp, a, a2, hv], hu, he⟩
  | slice t x lo hi mx =>
    obtain ⟨p, hp, he⟩ := oV_some he
    obtain ⟨l, hl, he⟩ := oV_some he
    obtain ⟨u, hu, he⟩ := oV_some he
    obtain ⟨m, hm, he⟩ := oV_some he
    obtain ⟨v, hv, hun, he⟩ := bV_some he
    obtain ⟨a, b⟩ := E x p (by simp [Op.operands]) hp
    have h1 := aOpt_mono (hev.mono fun y hy => by simp at hy; simp [Op.operands, hy]) hl
    have h2 := aOpt_mono (hev.mono fun y hy => by simp at hy; simp [Op.operands, hy]) hu
    have h3 := aOpt_mono (hev.mono fun y hy => by simp at hy; simp [Op.operands, hy]) hm
    exact ⟨v, h, by simp only [aOp, a, h1, h2, h3, hv, Option.map_some], hun, he⟩
  | fieldAddr t x f =>
    obtain ⟨p, hp, he⟩ := oV_some he
    obtain ⟨i, hi, he⟩ := oV_some he
    obtain ⟨a, b⟩ := E x p (by simp [Op.operands]) hp
    split at he
    · rename_i fs hd
      obtain ⟨q, hq, he⟩ := oV_some he
      obtain ⟨j, hj, he⟩ := oV_some he
      split at he
      · cases he
      · rename_i hz
        obtain ⟨v, hv, hu, he⟩ := bV_some he
        exact ⟨v, h, by simp only [aOp, a, fa_eq hi hd hq hj hz hv, Option.map_some], hu, he⟩
    · cases he
  | field t x f =>
    obtain ⟨p, hp, he⟩ := oV_some he
    obtain ⟨v, hv, hu, he⟩ := bV_some he
    obtain ⟨a, b⟩ := E x p (by simp [Op.operands]) hp
    exact ⟨v, h, by simp only [aOp, a, hv, Option.map_some], hu, he⟩
  | indexAddr t x y =>
    obtain ⟨p, hp, he⟩ := oV_some he
    obtain ⟨q, hq, he⟩ := oV_some he
    obtain ⟨v, hv, hu, he⟩ := bV_some he
    obtain ⟨a, b⟩ := E x p (by simp [Op.operands]) hp
    obtain ⟨a2, b2⟩ := E y q (by simp [Op.operands]) hq
    exact ⟨v, h, by simp only [aOp, a, a2, hv, Option.map_some], hu, he⟩
  | index t x y =>
    obtain ⟨p, hp, he⟩ := oV_some he
    obtain ⟨q, hq, he⟩ := oV_some he
    obtain ⟨v, hv, hu, he⟩ := bV_some he
    obtain ⟨a, b⟩ := E x p (by simp [Op.operands]) hp
    obtain ⟨a2, b2⟩ := E y q (by simp [Op.operands]) hq
    exact ⟨v, h, by simp only [aOp, a, a2, hv, Option.map_some], hu, he⟩
  | lookup t x y ok =>
    obtain ⟨p, hp, he⟩ := oV_some he
    obtain ⟨q, hq, he⟩ := oV_some he
    obtain ⟨v, hv, hu, he⟩ := bV_some he
    obtain ⟨a, b⟩ := E x p (by simp [Op.operands]) hp
    obtain ⟨a2, b2⟩ := E y q (by simp [Op.operands]) hq
    exact ⟨v, h, by simp only [aOp, a, a2, hv, Option.map_some], hu, he⟩
  | mapEntry t x y =>
    obtain ⟨p, hp, he⟩ := oV_some he
    obtain ⟨q, hq, he⟩ := oV_some he
    obtain ⟨v, h1, hv, hu, he⟩ := bVH_some he
    obtain ⟨a, b⟩ := E x p (by simp [Op.operands]) hp
    obtain ⟨a2, b2⟩ := E y q (by simp [Op.operands]) hq
    exact ⟨v, h1, by simp only [aOp, a, a2, hv], hu, he⟩
  | range t x =>
    obtain ⟨p, hp, he⟩ := oV_some he
    obtain ⟨v, h1, hv, hu, he⟩ := bVH_some he
    obtain ⟨a, b⟩ := E x p (by simp [Op.operands]) hp
    exact ⟨v, h1, by simp only [aOp, a, hv], hu, he⟩
  | next it isS =>
    cases isS with
    | true =>
      obtain ⟨p, hp, he⟩ := oV_some he
      obtain ⟨v, h1, hv, hu, he⟩ := bVH_some he
      obtain ⟨a, b⟩ := E it p (by simp [Op.operands]) hp
      exact ⟨v, h1, by simp only [aOp, a, hv], hu, he⟩
    | false =>
      obtain ⟨p, hp, he⟩ := oV_some he
      obtain ⟨v, h1, hv, hu, he⟩ := bVH_some he
      obtain ⟨a, b⟩ := E it p (by simp [Op.operands]) hp
      exact ⟨v, h1, by simp only [aOp, a, hv], hu, he⟩
  | entry it =>
    obtain ⟨p, hp, he⟩ := oV_some he
    obtain ⟨v, hv, hu, he⟩ := bV_some he
    obtain ⟨a, b⟩ := E it p (by simp [Op.operands]) hp
    exact ⟨v, h, by simp only [aOp, a, hv, Option.map_some], hu, he⟩
  | extract t i =>
    obtain ⟨p, hp, he⟩ := oV_some he
    obtain ⟨v, hv, hu, he⟩ := bV_some he
    obtain ⟨a, b⟩ := E t p (by simp [Op.operands]) hp
    exact ⟨v, h, by simp only [aOp, a, hv, Option.map_some], hu, he⟩
  | call c =>
    obtain ⟨callee, args, argTypes⟩ := c
    cases callee with
    | invoke r n => simp [opV] at he
    | builtin b =>
      simp only [opV] at he
      obtain ⟨vs, hvs, he0⟩ := oV_some he
      clear he
      have he := he0
      clear he0
      have h1 := (argsK_some (hev.mono fun y hy => by simp at hy; simp [Op.operands, Call.operands, hy]) hvs).1
      have key : ∀ v h2, aBuiltin Ty b argTypes.toList vs h = some (v, h2) → aOp Ty FT ev' (.call ⟨.builtin b, args, argTypes⟩) h = some (v, h2) := fun v h2 hb => by
        simp only [aOp, h1, hb]
      split at he
      · rename_i t0 t1 s x hts
        obtain ⟨v, h2, hv, hu, he⟩ := bVH_some he
        exact ⟨v, h2, key v h2 (by rw [hts]; exact hv), hu, he⟩
      · rename_i t0 t1 d s hts
        obtain ⟨v, h2, hv, hu, he⟩ := bVH_some he
        exact ⟨v, h2, key v h2 (by rw [hts]; exact hv), hu, he⟩
      · rename_i t x hts
        obtain ⟨v, hv, hu, he⟩ := bV_some he
        exact ⟨v, h, key v h (by rw [hts]; simp only [aBuiltin, hv, Option.map_some]), hu, he⟩
      · rename_i t x hts
        obtain ⟨v, hv, hu, he⟩ := bV_some he
        exact ⟨v, h, key v h (by rw [hts]; simp only [aBuiltin, hv, Option.map_some]), hu, he⟩
      · rename_i x y
        obtain ⟨v, hv, hu, he⟩ := bV_some he
        exact ⟨v, h, key v h (by simp only [aBuiltin, hv, Option.map_some]), hu, he⟩
      · rename_i x
        obtain ⟨v, hv, hu, he⟩ := bV_some he
        exact ⟨v, h, key v h (by simp only [aBuiltin, hv, Option.map_some]), hu, he⟩
      · rename_i x
        obtain ⟨v, hv, hu, he⟩ := bV_some he
        exact ⟨v, h, key v h (by simp only [aBuiltin, hv, Option.map_some]), hu, he⟩
      · rename_i x y
        obtain ⟨v, hv, hu, he⟩ := bV_some he
        exact ⟨v, h, key v h (by simp only [aBuiltin, hv, Option.map_some]), hu, he⟩
      · rename_i x y
        obtain ⟨v, hv, hu, he⟩ := bV_some he
        exact ⟨v, h, key v h (by simp only [aBuiltin, hv, Option.map_some]), hu, he⟩
      · cases he
    | value f =>
      have hargs : ∀ vs, argsK ev args.toList = some vs → aMapM ev' args.toList = some vs ∧ okArgs vs = true := fun vs hvs =>
        argsK_some (hev.mono fun y hy => by simp at hy; simp [Op.operands, Call.operands, hy]) hvs
      have dyn : ∀ (fv : Value) (vs : List Value), ev' f = some fv → argsK ev args.toList = some vs → dyK F fv vs h k = some r → ∃ v h1, aOp Ty FT ev' (.call ⟨.value f, args, argTypes⟩) h = some (v, h1) ∧ isUndef v = false ∧ k v h1 = some r := by
        intro fv vs hfv hvs he
        obtain ⟨a, b⟩ := hargs vs hvs
        unfold dyK at he
        split at he
        · rename_i g first captured
          rcases condQ he with ⟨hc, he⟩ | ⟨_, he⟩
          · obtain ⟨v, h1, hv, hu, he⟩ := bVH_some he
            rw [Bool.and_eq_true] at hc
            obtain ⟨f', hf', hfv'⟩ := hF g _ h v h1 hv hW (by
              simp only [okArgs, List.all_append, Bool.and_eq_true] at hc b ⊢
              exact ⟨⟨hc.1, b⟩, hc.2⟩)
            exact ⟨v, h1, by simp only [aOp, hfv, a, aCall, hf', hfv'], hu, he⟩
          · cases he
        · cases he
      cases f with
      | func g =>
        simp only [opV] at he
        obtain ⟨vs, hvs, he⟩ := oV_some he
        obtain ⟨a, b⟩ := hargs vs hvs
        obtain ⟨v, h1, hv, hu, he⟩ := bVH_some he
        obtain ⟨f', hf', hfv'⟩ := hF g vs h v h1 hv hW b
        exact ⟨v, h1, by simp only [aOp, hfn, a, aCall, List.nil_append, List.append_nil, hf', hfv'], hu, he⟩
      | _ =>
        simp only [opV] at he
        obtain ⟨fv, hfv, he⟩ := oV_some he
        obtain ⟨vs, hvs, he⟩ := oV_some he
        exact dyn fv vs (E _ fv (by simp [Op.operands, Call.operands]) hfv).1 hvs he
  | _ => simp [opV] at he
end
end
end Go.Ab
