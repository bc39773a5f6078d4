/- Code and functions on the machine in passing style: what it gives, the machine gives. Conditions: none. -/
import Derived.Test.YtcgoamfjpnkiiaaGreatAbZe
set_option linter.all false
namespace Go.Ab
noncomputable section
open Go.RowKit

def Kont.run (κ : Kont) : AOut → Tr Value → H → Rz
  | .normal => κ.nrm
  | .ret => κ.ret
  | .exit id => κ.exit id
  | .goto l => κ.goto l

theorem SubFr.trans {a b c : Tr Value} (h1 : SubFr a b) (h2 : SubFr b c) : SubFr a c := fun t v h => h2 t v (h1 t v h)

theorem appV_absV : ∀ (l : List Nat) (f : Tr Value → H → Rz) (acc fr : Tr Value) (h : H) (r : Value × H), appV l (absV l f acc) fr h = some r → ∃ fr', (∀ t v, fr'.get t = some v → acc.get t = some v ∨ fr.get t = some v) ∧ f fr' h = some r
  | [], f, acc, fr, h, r, he => ⟨acc, fun t v hv => .inl hv, he⟩
  | t :: l, f, acc, fr, h, r, he => by
    simp only [appV] at he
    obtain ⟨v, hv, he2⟩ := oV_some he
    obtain ⟨fr', a, b⟩ := appV_absV l f (acc.put t (some v)) fr h r he2
    refine ⟨fr', fun t' v' h' => ?_, b⟩
    rcases a t' v' h' with h1 | h1
    · rw [Tr.get_put] at h1
      split at h1
      · rename_i e; subst e; cases h1; exact .inr hv
      · exact .inl h1
    · exact .inr h1

theorem appV_abs {l : List Nat} {f : Tr Value → H → Rz} {fr : Tr Value} {h : H} {r : Value × H} (he : appV l (absV l f .leaf) fr h = some r) : ∃ fr', SubFr fr' fr ∧ f fr' h = some r := by
  obtain ⟨fr', a, b⟩ := appV_absV l f .leaf fr h r he
  refine ⟨fr', fun t v hv => ?_, b⟩
  rcases a t v hv with h1 | h1
  · cases h1
  · exact h1

theorem goK_spec {lv : Lv} {f : Nat → Tr Value → H → Rz} {l : Nat} {out : Tr Value → H → Rz} {fr : Tr Value} {h : H} {r : Value × H} : ∀ (ls : List Nat), goK lv ls (mkGo lv ls f) l out fr h = some r → (l ∈ ls ∧ ∃ fr', SubFr fr' fr ∧ f l fr' h = some r) ∨ (l ∉ ls ∧ out fr h = some r)
  | [], he => .inr ⟨by simp, he⟩
  | l0 :: ls, he => by
    simp only [goK] at he
    split at he
    · rename_i hb
      have := Nat.eq_of_beq_eq_true hb
      subst this
      exact .inl ⟨List.mem_cons_self, appV_abs he⟩
    · rename_i hb
      have hne : l ≠ l0 := fun e => by subst e; rw [Nat.beq_refl] at hb; cases hb
      rcases goK_spec ls he with ⟨a, b⟩ | ⟨a, b⟩
      · exact .inl ⟨List.mem_cons_of_mem _ a, b⟩
      · exact .inr ⟨by simp [hne, a], b⟩

theorem findLabel_mem : ∀ (c : Code) (l : Nat) (rest : Code), findLabel c l = some rest → l ∈ labelsIn c
  | .seq a b, l, rest, h => by
    simp only [findLabel] at h
    simp only [labelsIn, List.mem_append]
    cases ha : findLabel a l with
    | some r => exact .inl (findLabel_mem a l r ha)
    | none => rw [ha] at h; exact .inr (findLabel_mem b l rest h)
  | .label l', l, rest, h => by
    simp only [findLabel] at h
    split at h
    · rename_i hb; simp only [labelsIn, List.mem_singleton]; exact (beq_iff_eq.1 hb).symm
    · cases h
  | .skip, _, _, h => by simp [findLabel] at h
  | .region .., _, _, h => by simp [findLabel] at h
  | .cond .., _, _, h => by simp [findLabel] at h
  | .block .., _, _, h => by simp [findLabel] at h
  | .loop .., _, _, h => by simp [findLabel] at h
  | .rangeFunc .., _, _, h => by simp [findLabel] at h
  | .exit .., _, _, h => by simp [findLabel] at h
  | .scope .., _, _, h => by simp [findLabel] at h
  | .goto .., _, _, h => by simp [findLabel] at h
  | .ret, _, _, h => by simp [findLabel] at h
  | .refuse .., _, _, h => by simp [findLabel] at h

section
variable {Ty : Types} {F : FK} {FT : FunT} {n N : Nat} {lv : Lv} {jv : Jn}

/-- What a piece of code comes to. -/
def Comes (Ty : Types) (FT : FunT) (n N f : Nat) (c : Code) (ff : Tr Value) (h : H) (κ : Kont) (r : Value × H) : Prop :=
  ∃ o kf' ff' h', evCF Ty FT n (N + 1) f c (ff, h) = some (o, (ff', h')) ∧ FrOk n ff' ∧ SubFr kf' ff' ∧ Wf h' ∧ κ.run o kf' h' = some r

theorem evK_sound (hF : LeF F FT) (hQ : QT FT) : ∀ (f : Nat) (c : Code) (κ : Kont) (kf ff : Tr Value) (h : H) (r : Value × H), FrOk n ff → SubFr kf ff → Wf h → evK Ty F lv jv n N f c κ kf h = some r → Comes Ty FT n N f c ff h κ r
  | 0, c, κ, kf, ff, h, r, _, _, _, he => by cases he
  | f + 1, c, κ, kf, ff, h, r, ok, hs, hW, he => by
    cases c with
    | skip => exact ⟨.normal, kf, ff, h, rfl, ok, hs, hW, he⟩
    | label l => exact ⟨.normal, kf, ff, h, rfl, ok, hs, hW, he⟩
    | ret => exact ⟨.ret, kf, ff, h, rfl, ok, hs, hW, he⟩
    | exit id => exact ⟨.exit id, kf, ff, h, rfl, ok, hs, hW, he⟩
    | goto l => exact ⟨.goto l, kf, ff, h, rfl, ok, hs, hW, he⟩
    | region id ops drawn =>
      cases drawn with
      | false =>
        simp only [evK] at he
        obtain ⟨kf', ff', h', a, b, c, d, e⟩ := evOpsK_sound hF hQ _ _ _ _ _ _ ok hs hW he
        exact ⟨.normal, kf', ff', h', by simp only [evCF, a], b, c, d, e⟩
      | true =>
        simp only [evK] at he
        split at he
        · rename_i ps hps
          rcases condQ he with ⟨hlw, he2⟩ | ⟨_, he2⟩
          · have hl : h.lw ≤ h.n := Nat.le_of_ble_eq_true hlw
            obtain ⟨kf', ff', h', a, b, c, d, e⟩ := evDrawK_sound (P0 := []) hF hQ ops.toList ps [] [] kf ff h κ.nrm r (by rw [List.nil_append]; exact hps)
              ⟨rfl, rfl, fun i p d r h1 => by simp at h1, fun i d h1 => by simp at h1, ok, hs, hW, hl⟩ he2
            exact ⟨.normal, kf', ff', h', by simp only [evCF, a], b, c, d, e⟩
          · cases he2
        · cases he
    | seq a b =>
      simp only [evK] at he
      have key : ∀ (nk : Tr Value → H → Rz), (∀ kf1 h1, nk kf1 h1 = some r → ∃ kf2, SubFr kf2 kf1 ∧ evK Ty F lv jv n N f b κ kf2 h1 = some r) → evK Ty F lv jv n N f a ⟨nk, κ.ret, κ.exit, κ.goto⟩ kf h = some r → Comes Ty FT n N (f + 1) (.seq a b) ff h κ r := by
        intro nk hnk h0
        obtain ⟨o, kf1, ff1, h1, e1, ok1, hs1, hW1, hr1⟩ := evK_sound hF hQ f a _ kf ff h r ok hs hW h0
        cases o with
        | normal =>
          obtain ⟨kf2, hs2, hb⟩ := hnk kf1 h1 hr1
          obtain ⟨o2, kf3, ff3, h3, e3, ok3, hs3, hW3, hr3⟩ := evK_sound hF hQ f b κ kf2 ff1 h1 r ok1 (hs2.trans hs1) hW1 hb
          exact ⟨o2, kf3, ff3, h3, by simp only [evCF, e1]; exact e3, ok3, hs3, hW3, hr3⟩
        | ret => exact ⟨.ret, kf1, ff1, h1, by simp only [evCF, e1], ok1, hs1, hW1, hr1⟩
        | exit id => exact ⟨.exit id, kf1, ff1, h1, by simp only [evCF, e1], ok1, hs1, hW1, hr1⟩
        | goto l => exact ⟨.goto l, kf1, ff1, h1, by simp only [evCF, e1], ok1, hs1, hW1, hr1⟩
      split at he
      · exact key _ (fun kf1 h1 h2 => ⟨kf1, fun t v h => h, h2⟩) he
      · exact key _ (fun kf1 h1 h2 => appV_abs h2) he
    | cond c t e =>
      simp only [evK] at he
      obtain ⟨g, hg, he2⟩ := oV_some he
      unfold cdK at he2
      split at he2
      · rename_i bb
        have hg' : evalF ff c = some (.bool bb) := (hs.ev ok [c] c (by simp) _ hg).1
        have : evK Ty F lv jv n N f (cond bb t e) κ kf h = some r := by cases bb <;> exact he2
        obtain ⟨o, kf1, ff1, h1, e1, x⟩ := evK_sound hF hQ f _ κ kf ff h r ok hs hW this
        exact ⟨o, kf1, ff1, h1, by simp only [evCF, hg']; exact e1, x⟩
      · cases he2
    | block id c =>
      simp only [evK] at he
      obtain ⟨o, kf1, ff1, h1, e1, ok1, hs1, hW1, hr1⟩ := evK_sound hF hQ f c _ kf ff h r ok hs hW he
      cases o with
      | normal => exact ⟨.normal, kf1, ff1, h1, by simp only [evCF, e1], ok1, hs1, hW1, hr1⟩
      | ret => exact ⟨.ret, kf1, ff1, h1, by simp only [evCF, e1], ok1, hs1, hW1, hr1⟩
      | goto l => exact ⟨.goto l, kf1, ff1, h1, by simp only [evCF, e1], ok1, hs1, hW1, hr1⟩
      | exit id' =>
        simp only [Kont.run] at hr1
        split at hr1
        · rename_i hb
          exact ⟨.normal, kf1, ff1, h1, by simp only [evCF, e1, hb, cond_true], ok1, hs1, hW1, hr1⟩
        · rename_i hb
          exact ⟨.exit id', kf1, ff1, h1, by simp only [evCF, e1, hb, cond_false], ok1, hs1, hW1, hr1⟩
    | loop c =>
      simp only [evK] at he
      have key : ∀ (m : Nat) (kf ff : Tr Value) (h : H), FrOk n ff → SubFr kf ff → Wf h →
          appV (lv ((firstReg c).getD 0)) (lpK (FnV (lv ((firstReg c).getD 0)).length) (absV (lv ((firstReg c).getD 0)) (fun _ _ => none) .leaf) (fun ih =>
            absV (lv ((firstReg c).getD 0)) (fun fr h => evK Ty F lv jv n N f c ⟨fun fr h => appV (lv ((firstReg c).getD 0)) ih fr h, κ.ret, κ.exit, κ.goto⟩ fr h) .leaf) m) kf h = some r →
          ∃ o kf' ff' h', loopNF (evCF Ty FT n (N + 1) f c) (m + 1) (ff, h) = some (o, (ff', h')) ∧ FrOk n ff' ∧ SubFr kf' ff' ∧ Wf h' ∧ κ.run o kf' h' = some r := by
        intro m
        induction m with
        | zero =>
          intro kf ff h _ _ _ h0
          obtain ⟨fr', _, h1⟩ := appV_abs (f := fun _ _ => none) h0
          cases h1
        | succ m ih =>
          intro kf ff h ok hs hW h0
          obtain ⟨kf1, hs1, h1⟩ := appV_abs h0
          obtain ⟨o, kf2, ff2, h2, e2, ok2, hs2, hW2, hr2⟩ := evK_sound hF hQ f c _ kf1 ff h r ok (hs1.trans hs) hW h1
          cases o with
          | normal =>
            obtain ⟨o3, kf3, ff3, h3, e3, x3⟩ := ih kf2 ff2 h2 ok2 hs2 hW2 hr2
            exact ⟨o3, kf3, ff3, h3, by show loopNF _ ((m + 1) + 1) (ff, h) = _; rw [loopNF, e2]; exact e3, x3⟩
          | ret => exact ⟨.ret, kf2, ff2, h2, by show loopNF _ ((m + 1) + 1) (ff, h) = _; rw [loopNF, e2], ok2, hs2, hW2, hr2⟩
          | exit id => exact ⟨.exit id, kf2, ff2, h2, by show loopNF _ ((m + 1) + 1) (ff, h) = _; rw [loopNF, e2], ok2, hs2, hW2, hr2⟩
          | goto l => exact ⟨.goto l, kf2, ff2, h2, by show loopNF _ ((m + 1) + 1) (ff, h) = _; rw [loopNF, e2], ok2, hs2, hW2, hr2⟩
      obtain ⟨o, kf1, ff1, h1, e1, x⟩ := key N kf ff h ok hs hW he
      exact ⟨o, kf1, ff1, h1, by simp only [evCF]; exact e1, x⟩
    | scope c =>
      simp only [evK, jn] at he
      have run : ∀ (m : Nat) (cur : Code) (out : Nat → Tr Value → H → Rz) (kf ff : Tr Value) (h : H), FrOk n ff → SubFr kf ff → Wf h → evK Ty F lv jv n N f cur ⟨κ.nrm, κ.ret, κ.exit, out⟩ kf h = some r →
          (∀ l fr h, out l fr h = some r → (findLabel c l = none ∧ κ.goto l fr h = some r) ∨ (∃ rest kf1, findLabel c l = some rest ∧ SubFr kf1 fr ∧ ∃ m', m = m' + 1 ∧
            evK Ty F lv jv n N f rest ⟨κ.nrm, κ.ret, κ.exit, fun l' fr h => goK lv (labelsIn c) (lpK (FnsV lv (labelsIn c)) (mkGo lv (labelsIn c) fun _ _ _ => none) (fun ih => mkGo lv (labelsIn c) fun l fr h => match findLabel c l with
              | some rest => evK Ty F lv jv n N f rest ⟨κ.nrm, κ.ret, κ.exit, fun l' fr h => goK lv (labelsIn c) ih l' (κ.goto l') fr h⟩ fr h
              | none => none) m') l' (κ.goto l') fr h⟩ kf1 h = some r)) →
          ∃ o kf' ff' h', scopeNF (evCF Ty FT n (N + 1) f) c (m + 1) cur (ff, h) = some (o, (ff', h')) ∧ FrOk n ff' ∧ SubFr kf' ff' ∧ Wf h' ∧ κ.run o kf' h' = some r := by
        intro m
        induction m with
        | zero =>
          intro cur out kf ff h ok hs hW h0 hout
          obtain ⟨o, kf1, ff1, h1, e1, ok1, hs1, hW1, hr1⟩ := evK_sound hF hQ f cur _ kf ff h r ok hs hW h0
          cases o with
          | normal => exact ⟨.normal, kf1, ff1, h1, by rw [scopeNF, e1], ok1, hs1, hW1, hr1⟩
          | ret => exact ⟨.ret, kf1, ff1, h1, by rw [scopeNF, e1], ok1, hs1, hW1, hr1⟩
          | exit id => exact ⟨.exit id, kf1, ff1, h1, by rw [scopeNF, e1], ok1, hs1, hW1, hr1⟩
          | goto l =>
            rcases hout l kf1 h1 hr1 with ⟨a, b⟩ | ⟨rest, kf2, _, _, m', hm, _⟩
            · exact ⟨.goto l, kf1, ff1, h1, by rw [scopeNF, e1]; simp only [a], ok1, hs1, hW1, b⟩
            · omega
        | succ m ih =>
          intro cur out kf ff h ok hs hW h0 hout
          obtain ⟨o, kf1, ff1, h1, e1, ok1, hs1, hW1, hr1⟩ := evK_sound hF hQ f cur _ kf ff h r ok hs hW h0
          cases o with
          | normal => exact ⟨.normal, kf1, ff1, h1, by rw [scopeNF, e1], ok1, hs1, hW1, hr1⟩
          | ret => exact ⟨.ret, kf1, ff1, h1, by rw [scopeNF, e1], ok1, hs1, hW1, hr1⟩
          | exit id => exact ⟨.exit id, kf1, ff1, h1, by rw [scopeNF, e1], ok1, hs1, hW1, hr1⟩
          | goto l =>
            rcases hout l kf1 h1 hr1 with ⟨a, b⟩ | ⟨rest, kf2, hfl, hs2, m', hm, h2⟩
            · exact ⟨.goto l, kf1, ff1, h1, by rw [scopeNF, e1]; simp only [a], ok1, hs1, hW1, b⟩
            · have hm' : m' = m := by omega
              subst hm'
              obtain ⟨o3, kf3, ff3, h3, e3, x3⟩ := ih rest _ kf2 ff1 h1 ok1 (hs2.trans hs1) hW1 h2 (fun l' fr' h' hg => by
                cases m' with
                | zero =>
                  rcases goK_spec (f := fun _ _ _ => none) _ hg with ⟨_, fr2, _, h3⟩ | ⟨a, b⟩
                  · cases h3
                  · refine .inl ⟨?_, b⟩
                    cases hfl2 : findLabel c l' with
                    | none => rfl
                    | some rr => exact absurd (findLabel_mem c l' rr hfl2) a
                | succ m'' =>
                  rcases goK_spec _ hg with ⟨_, fr2, hs3, h3⟩ | ⟨a, b⟩
                  · split at h3
                    · rename_i rest2 hfl2
                      exact .inr ⟨rest2, fr2, hfl2, hs3, m'', rfl, h3⟩
                    · cases h3
                  · refine .inl ⟨?_, b⟩
                    cases hfl2 : findLabel c l' with
                    | none => rfl
                    | some rr => exact absurd (findLabel_mem c l' rr hfl2) a)
              exact ⟨o3, kf3, ff3, h3, by rw [scopeNF, e1]; simp only [hfl]; exact e3, x3⟩
      obtain ⟨o, kf1, ff1, h1, e1, x⟩ := run N c _ kf ff h ok hs hW he (fun l fr' h' hg => by
        cases N with
        | zero =>
          rcases goK_spec (f := fun _ _ _ => none) _ hg with ⟨_, fr2, _, h3⟩ | ⟨a, b⟩
          · cases h3
          · refine .inl ⟨?_, b⟩
            cases hfl2 : findLabel c l with
            | none => rfl
            | some rr => exact absurd (findLabel_mem c l rr hfl2) a
        | succ m'' =>
          rcases goK_spec _ hg with ⟨_, fr2, hs3, h3⟩ | ⟨a, b⟩
          · split at h3
            · rename_i rest2 hfl2
              exact .inr ⟨rest2, fr2, hfl2, hs3, m'', rfl, h3⟩
            · cases h3
          · refine .inl ⟨?_, b⟩
            cases hfl2 : findLabel c l with
            | none => rfl
            | some rr => exact absurd (findLabel_mem c l rr hfl2) a)
      exact ⟨o, kf1, ff1, h1, by simp only [evCF]; exact e1, x⟩
    | _ => simp [evK] at he

theorem resK_sound {kf ff : Tr Value} (hs : SubFr kf ff) {h : H} : ∀ (rs : List ResultVar) (k : List Value → Rz) (r : Value × H), resK Ty kf h rs k = some r → ∃ vs, resLF Ty (ff, h) rs = some vs ∧ k vs = some r
  | [], k, r, he => ⟨[], rfl, he⟩
  | .tmp t :: rs, k, r, he => by
    simp only [resK] at he
    obtain ⟨v, hv, he2⟩ := oV_some he
    obtain ⟨vs, h1, h2⟩ := resK_sound hs rs _ r he2
    exact ⟨v :: vs, by simp only [resLF, resAF, hs t v hv, h1], h2⟩
  | .cell x t :: rs, k, r, he => by
    simp only [resK] at he
    obtain ⟨p, hp, he2⟩ := oV_some he
    obtain ⟨i, hi, he3⟩ := oV_some he2
    obtain ⟨v, hv, hu, he4⟩ := bV_some he3
    obtain ⟨vs, h1, h2⟩ := resK_sound hs rs _ r he4
    rw [ld_eq hi] at hv
    exact ⟨v :: vs, by simp only [resLF, resAF, hs x p hp, hv, h1], h2⟩

theorem frK_sub {n : Nat} : ∀ (vs : List Value) (i : Nat) (kf ff : Tr Value), okArgs vs = true → i + vs.length ≤ n → SubFr kf ff → SubFr (frK vs i kf) (frArgs n vs i ff)
  | [], _, _, _, _, _, hs => hs
  | v :: vs, i, kf, ff, ho, hl, hs => by
    simp only [okArgs, List.all_cons, Bool.and_eq_true, Bool.not_eq_true'] at ho
    simp only [List.length_cons] at hl
    refine frK_sub vs (i + 1) _ _ ho.2 (by omega) ?_
    intro t u ht
    rw [Tr.get_put] at ht
    simp only [putFr, blt_iff.2 (show i < n by omega), cond_true, ho.1, cond_false, Tr.get_put]
    by_cases e : t = i
    · rw [if_pos e] at ht ⊢; exact ht
    · rw [if_neg e] at ht ⊢; exact hs t u ht

theorem runK_sound (hF : LeF F FT) (hQ : QT FT) {fuel : Nat} {fn : Func} {args : List Value} {h : H} {r : Value × H} (hW : Wf h) (ho : okArgs args = true) (he : runK Ty F lv jv N fuel fn args h = some r) : runFF Ty FT (N + 1) fuel fn args h = some r := by
  unfold runK at he
  unfold runFF
  split at he
  · rename_i c hc
    rw [hc]
    simp only
    split at he
    · rename_i hb
      rw [Fast.len_eq, hb, cond_true]
      have hle := Nat.le_of_ble_eq_true hb
      have hs := frK_sub (n := fn.ntmps) args 0 .leaf .leaf ho (by omega) (fun t v h => h)
      obtain ⟨o, kf', ff', h', e, ok', hs', hW', hr⟩ := evK_sound hF hQ fuel c _ _ _ h r (frArgs_ok (n := fn.ntmps) args 0 .leaf fun t v h => by cases h) hs hW he
      rw [e]
      have fin : retK Ty fn kf' h' = some r → (match resLF Ty (ff', h') fn.results.toList with
          | some vs => some (packR vs, h')
          | none => none) = some r := fun hr => by
        obtain ⟨vs, h1, h2⟩ := resK_sound hs' _ _ r hr
        rw [h1]; exact h2
      cases o with
      | normal => exact fin hr
      | ret => exact fin hr
      | exit id => cases hr
      | goto l => cases hr
    · cases he
  · cases he
end

theorem deepK_le {P : Program} {Ty : Types} (hT : TyOk P Ty) {T : Tr Func} (hK : FnOk P T) (hm : P.follows .mixedOrders = true) {lv : Nat → Lv} {jv : Nat → Jn} {N fuel : Nat} {G : FunT} (hG : SoundT P G) : ∀ d, LeF (deepK Ty T lv jv G N fuel d) (deepTF Ty T (N + 1) fuel G d)
  | 0 => by
    intro g args h v h1 he _ _
    change (match G g with
      | some f => f args h
      | none => none) = some (v, h1) at he
    cases hg : G g with
    | none => rw [hg] at he; cases he
    | some f => rw [hg] at he; exact ⟨f, hg, he⟩
  | d + 1 => by
    intro g args h v h1 he hW ho
    change (match G g with
      | some f => f args h
      | none => match T.get g with
        | some fn => runK Ty (deepK Ty T lv jv G N fuel d) (lv g) (jv g) N fuel fn args h
        | none => none) = some (v, h1) at he
    cases hg : G g with
    | some f =>
      rw [hg] at he
      exact ⟨f, by
        show (match G g with
          | some f => some f
          | none => match T.get g with
            | some fn => some (runFF Ty (deepTF Ty T (N + 1) fuel G d) (N + 1) fuel fn)
            | none => none) = some f
        rw [hg], he⟩
    | none =>
      rw [hg] at he
      cases hfn : T.get g with
      | none => rw [hfn] at he; cases he
      | some fn =>
        rw [hfn] at he
        refine ⟨runFF Ty (deepTF Ty T (N + 1) fuel G d) (N + 1) fuel fn, by
          show (match G g with
            | some f => some f
            | none => match T.get g with
              | some fn => some (runFF Ty (deepTF Ty T (N + 1) fuel G d) (N + 1) fuel fn)
              | none => none) = _
          rw [hg, hfn], ?_⟩
        exact runK_sound (deepK_le hT hK hm hG d) (deepTF_sound hT hK hm hG d).q hW ho he

/-- What the machine in passing style gives for a function, its call comes to. -/
theorem deepK_sound {P : Program} {Ty : Types} (hT : TyOk P Ty) {T : Tr Func} (hK : FnOk P T) (hm : P.follows .mixedOrders = true) {lv : Nat → Lv} {jv : Nat → Jn} {N fuel : Nat} {G : FunT} (hG : SoundT P G) {d : Nat} {g : FuncId} {args : List Value} {h h' : H} {v : Value}
    (he : deepK Ty T lv jv G N fuel d g args h = some (v, h')) (ho : okArgs args = true) (hW : Wf h) :
    Q h h' ∧ ∀ (R : Ren) (w : World) (args' : Array Value), Rel h R w → LR R args args'.toList → (∀ id, h.n ≤ id → id < h'.n → R id = none) →
      Calls P g args' w fun e w' => ∃ v' R', e = .returned v' ∧ Step h R w h' R' w' ∧ VR R' v v' := by
  obtain ⟨f, h1, h2⟩ := deepK_le hT hK hm (lv := lv) (jv := jv) (N := N) (fuel := fuel) hG d g args h v h' he hW ho
  obtain ⟨a, b⟩ := (deepTF_sound hT hK hm hG d g f h1).2 args h v h' h2
  exact ⟨a hW, b⟩
end
end Go.Ab
