/- A function, over an abstract heap. Conditions: none. -/
import Derived.Test.YtcgoamfjpnkiiaaGreatAbQ
set_option linter.all false
namespace Go.Ab
noncomputable section
open Go.RowKit

def resA (Ty : Types) (s : Sta) : ResultVar → Option Value
  | .tmp t => match s.1[t]? with
    | some v => cond (isUndef v) none (some v)
    | none => none
  | .cell a t => match s.1[a]? with
    | some x => aLoad Ty s.2 t x
    | none => none

def resL (Ty : Types) (s : Sta) : List ResultVar → Option (List Value)
  | [] => some []
  | r :: rs => match resA Ty s r, resL Ty s rs with
    | some v, some vs => some (v :: vs)
    | _, _ => none

def packR : List Value → Value
  | [v] => v
  | vs => .tuple vs.toArray

def retA (Ty : Types) (fn : Func) (r : Option (AOut × Sta)) : Option (Value × H) :=
  match r with
  | some (.normal, s) => match resL Ty s fn.results.toList with
    | some vs => some (packR vs, s.2)
    | none => none
  | some (.ret, s) => match resL Ty s fn.results.toList with
    | some vs => some (packR vs, s.2)
    | none => none
  | _ => none

def frameA (fn : Func) (args : List Value) : List Value := args ++ List.replicate (fn.ntmps - args.length) undefA

/-- A function's abstract form, by its text. -/
def runF (Ty : Types) (F : FunT) (ann : Ann) (N fuel : Nat) (fn : Func) : FunA := fun args h =>
  match fn.body with
  | some c => retA Ty fn (evC Ty F (drawA Ty F) ann N fuel c (frameA fn args, h))
  | none => none

def rdA (tm : Array Value) : ResultVar → Sem Value
  | .tmp t => pure (tm.getD t undef)
  | .cell x t => do loadVar t (← asAddr (tm.getD x undef))

section
variable {P : Program} {Ty : Types}

theorem resA_sound (hT : TyOk P Ty) {s : Sta} {R : Ren} {w : World} {a : Act} (hr : Rel s.2 R w) (ht : TR R s.1 a.tmps) {f : ResultVar → Sem Value} (hf1 : ∀ t, f (.tmp t) = pure (a.tmps.getD t undef)) (hf2 : ∀ x t, f (.cell x t) = (do loadVar t (← asAddr (a.tmps.getD x undef)))) {r : ResultVar} {v : Value} (h : resA Ty s r = some v) :
    ∃ v', (f r).run P w = .ok v' w ∧ VR R v v' := by
  cases r with
  | tmp t =>
    simp only [resA] at h
    cases hs : s.1[t]? with
    | none => rw [hs] at h; cases h
    | some z =>
      rw [hs] at h
      simp only at h
      cases hu : isUndef z with
      | true => rw [hu] at h; cases h
      | false =>
        rw [hu] at h
        cases h
        obtain ⟨v', h1, h2⟩ := ht.2 t _ hs
        rcases h2 with h2 | h2
        · rw [hu] at h2; cases h2
        · exact ⟨v', by rw [hf1]; simp [Array.getD_eq_getD_getElem?, h1], h2⟩
  | cell x t =>
    simp only [resA] at h
    cases hs : s.1[x]? with
    | none => rw [hs] at h; cases h
    | some z =>
      rw [hs] at h
      simp only at h
      obtain ⟨z', h1, h2⟩ := ht.2 x _ hs
      have hz : ∃ ad, z = .pointer (some ad) := by
        unfold aLoad at h
        split at h
        · exact ⟨_, rfl⟩
        · cases h
      obtain ⟨ad, rfl⟩ := hz
      rcases h2 with h2 | h2
      · cases h2
      · obtain ⟨v', h3, h4⟩ := aLoad_sound (P := P) hT hr h h2
        refine ⟨v', ?_, h4⟩
        have e1 : a.tmps.getD x undef = z' := by simp [Array.getD_eq_getD_getElem?, h1]
        cases h2 with
        | ptr id off l hl =>
          rw [hf2, e1]
          simpa [Instr.loadAt, Instr.sureAddr, asAddr] using h3

theorem resL_sound (hT : TyOk P Ty) {s : Sta} {R : Ren} {w : World} {a : Act} (hr : Rel s.2 R w) (ht : TR R s.1 a.tmps) {f : ResultVar → Sem Value} (hf1 : ∀ t, f (.tmp t) = pure (a.tmps.getD t undef)) (hf2 : ∀ x t, f (.cell x t) = (do loadVar t (← asAddr (a.tmps.getD x undef)))) : ∀ (rs : List ResultVar) (vs : List Value), resL Ty s rs = some vs →
    ∃ us, (rs.mapM f).run P w = .ok us w ∧ LR R vs us
  | [], vs, h => by simp only [resL, Option.some.injEq] at h; subst h; exact ⟨[], rfl, LR.nil⟩
  | r :: rs, vs, h => by
    simp only [resL] at h
    cases h1 : resA Ty s r with
    | none => rw [h1] at h; cases h
    | some v =>
      cases h2 : resL Ty s rs with
      | none => rw [h1, h2] at h; cases h
      | some vs' =>
        rw [h1, h2] at h
        cases h
        obtain ⟨v', k1, k2⟩ := resA_sound (P := P) hT hr ht hf1 hf2 h1
        obtain ⟨us, k3, k4⟩ := resL_sound hT hr ht hf1 hf2 rs vs' h2
        refine ⟨v' :: us, ?_, by simp [k4.1], fun i x y p q => ?_⟩
        · rw [List.mapM_cons]
          simp only [Sem.run_bind, Sem.run_pure, k1, k3, Result.andThen_ok]
        · cases i with
          | zero => simp at p q; subst p; subst q; exact k2
          | succ i => exact k4.2 i x y (by simpa using p) (by simpa using q)

theorem packR_VR {R : Ren} {vs us : List Value} (h : LR R vs us) : VR R (packR vs) (if h : us.toArray.size = 1 then us.toArray[0] else .tuple us.toArray) := by
  match vs, us, h with
  | [], [], _ => exact .tuple _ _ rfl fun i x y p q => by simp at p
  | [v], [u], h => exact h.2 0 v u rfl rfl
  | v :: v2 :: vs, u :: u2 :: us, h =>
    simp only [packR, List.size_toArray, List.length_cons, Nat.add_eq_right, Nat.add_eq_zero_iff, Nat.one_ne_zero, and_false, dite_false]
    exact .tuple _ _ (by simpa using h.1) fun i x y p q => h.2 i x y (by simpa using p) (by simpa using q)
  | [], _ :: _, h => simp [LR] at h
  | _ :: _, [], h => simp [LR] at h
  | [_], _ :: _ :: _, h => simp [LR] at h
  | _ :: _ :: _, [_], h => simp [LR] at h

theorem runF_sound (hT : TyOk P Ty) {F : FunT} (hF : SoundT P F) (hm : P.follows .mixedOrders = true) {ann : Ann} {N fuel : Nat} {g : FuncId} {fn : Func} (hg : P.funcs[g]? = some fn) : SoundF P g (runF Ty F ann N fuel fn) := by
  intro args h v h' he
  unfold runF at he
  cases hb : fn.body with
  | none => rw [hb] at he; cases he
  | some c =>
    rw [hb] at he
    simp only at he
    have hD := drawA_sound (P := P) hT hF hm
    obtain ⟨o, s, hev, ho, vs, hvs, hve⟩ : ∃ o s, evC Ty F (drawA Ty F) ann N fuel c (frameA fn args, h) = some (o, s) ∧ (o = .normal ∨ o = .ret) ∧ ∃ vs, resL Ty s fn.results.toList = some vs ∧ (packR vs, s.2) = (v, h') := by
      unfold retA at he
      split at he
      · rename_i s hs
        split at he
        · rename_i vs hvs; exact ⟨_, s, hs, .inl rfl, vs, hvs, by simpa using he⟩
        · cases he
      · rename_i s hs
        split at he
        · rename_i vs hvs; exact ⟨_, s, hs, .inr rfl, vs, hvs, by simpa using he⟩
        · cases he
      · cases he
    simp only [Prod.mk.injEq] at hve
    obtain ⟨rfl, rfl⟩ := hve
    refine ⟨fun hW => evC_Q hF.q (fun id ops s s' hh => (hD id ops s s' hh).1) _ _ _ _ _ hev hW, fun R w args' hr hl hfr => ?_⟩
    refine calls_of_wp hg hb ?_
    refine evC_sound hT hF hD _ _ _ _ _ hev R w _ _ hr ?_ rfl hfr fun a' w' R' hst ht' hd' => ?_
    · refine ⟨?_, fun i u hu => ?_⟩
      · have := hl.1
        simp only [frameA, List.length_append, List.length_replicate, Array.size_append, Array.size_replicate]
        simp only [Array.length_toList] at this
        omega
      · have hll := hl.1
        simp only [Array.length_toList] at hll
        simp only [frameA] at hu
        by_cases hi : i < args.length
        · rw [List.getElem?_append_left hi] at hu
          have hi' : i < args'.size := by omega
          have hg2 : args'.toList[i]? = some args'[i] := by simp [hi']
          exact ⟨args'[i], by rw [Array.getElem?_append_left hi']; simp [hi'], .inr (hl.2 i u _ hu hg2)⟩
        · rw [List.getElem?_append_right (by omega), List.getElem?_replicate] at hu
          split at hu
          · rename_i hlt
            cases hu
            refine ⟨undef, ?_, .inl rfl⟩
            rw [Array.getElem?_append_right (by omega), Array.getElem?_replicate, if_pos (by omega)]
          · cases hu
    · obtain ⟨us, k1, k2⟩ := resL_sound (P := P) (a := a') (f := rdA a'.tmps) hT hst.rel ht' (fun _ => rfl) (fun _ _ => rfl) fn.results.toList vs hvs
      have hres : (results fn a'.tmps).run P w' = .ok (if h : us.toArray.size = 1 then us.toArray[0] else .tuple us.toArray) w' := by
        unfold results
        rw [Array.mapM_eq_mapM_toList]
        simp only [Sem.run_bind, Sem.run_map]
        have e : ∀ (f g : ResultVar → Sem Value), (∀ r, f r = g r) → (fn.results.toList.mapM f).run P w' = (fn.results.toList.mapM g).run P w' := fun f g h => by rw [funext h]
        rw [e _ (rdA a'.tmps) (fun r => by cases r <;> rfl), k1]
        simp only [Result.andThen_ok, Sem.run_pure]
      have hpost : ∀ e, (e = Exit.normal ∨ e = Exit.ret) → bodyPost P fn (fun e w' => ∃ v' R', e = .returned v' ∧ Step h R w s.2 R' w' ∧ VR R' (packR vs) v') e a' w' := by
        intro e he
        rcases he with rfl | rfl <;> exact ⟨hd', _, hres, _, R', rfl, hst, packR_VR k2⟩
      rcases ho with rfl | rfl
      · exact hpost _ (.inl rfl)
      · exact hpost _ (.inr rfl)
end

/-! A table of functions: those below are given, those of a list by their texts -/

def oneF (g : FuncId) (f : FunA) (F : FunT) : FunT := fun k => cond (Nat.beq k g) (some f) (F k)

theorem oneF_sound {P : Program} {F : FunT} (hF : SoundT P F) {g : FuncId} {f : FunA} (he : Enters P g) (hf : SoundF P g f) : SoundT P (oneF g f F) := by
  intro k f' hk
  unfold oneF at hk
  cases hb : Nat.beq k g with
  | true =>
    rw [hb] at hk
    cases hk
    have := Nat.eq_of_beq_eq_true hb
    subst this
    exact ⟨he, hf⟩
  | false => rw [hb] at hk; exact hF k f' hk

theorem noF_sound {P : Program} : SoundT P (fun _ => none) := fun _ _ h => by cases h

/-- All functions by their texts, to a depth of calls; some are given ('G'). -/
def deepF (Ty : Types) (P : Program) (ann : FuncId → Ann) (N fuel : Nat) (G : FunT) : Nat → FunT
  | 0 => G
  | d + 1 => fun k => match G k with
    | some f => some f
    | none => match P.funcs[k]? with
      | some fn => cond (fn.body.isSome && !(fn.name == "runtime.NumGoroutine")) (some (runF Ty (deepF Ty P ann N fuel G d) (ann k) N fuel fn)) none
      | none => none

theorem deepF_sound {P : Program} {Ty : Types} (hT : TyOk P Ty) (hm : P.follows .mixedOrders = true) {ann : FuncId → Ann} {N fuel : Nat} {G : FunT} (hG : SoundT P G) : ∀ d, SoundT P (deepF Ty P ann N fuel G d)
  | 0 => hG
  | d + 1 => by
    intro k f hk
    simp only [deepF] at hk
    cases hg : G k with
    | some f' => rw [hg] at hk; cases hk; exact hG k _ hg
    | none =>
      rw [hg] at hk
      cases hfn : P.funcs[k]? with
      | none => rw [hfn] at hk; cases hk
      | some fn =>
        rw [hfn] at hk
        rcases condQ hk with ⟨hb, hk⟩ | ⟨_, hk⟩
        · cases hk
          rw [Bool.and_eq_true] at hb
          exact ⟨⟨fn, hfn, hb.1, by simpa using hb.2⟩, runF_sound hT (deepF_sound hT hm hG d) hm hfn⟩
        · cases hk
end
end Go.Ab
