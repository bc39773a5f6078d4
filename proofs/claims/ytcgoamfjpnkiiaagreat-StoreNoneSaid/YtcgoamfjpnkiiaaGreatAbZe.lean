/- Code and functions on the machine in passing style: what it gives, the machine gives. Conditions: none. -/
import Derived.Test.YtcgoamfjpnkiiaaGreatAbZd
set_option linter.all false
namespace Go.Ab
noncomputable section
open Go.RowKit

section
variable {Ty : Types} {F : FK} {FT : FunT} {n : Nat}

theorem planL_cons {ops : Array Oper} {o : Oper} {l : List Oper} {P0 ps : List Pl} (h : planL Ty n ops (o :: l) P0 = some (P0 ++ ps)) :
    ∃ q ps' p0, ps = q :: ps' ∧ maskP P0 o.after.toList = some q.mask ∧ dstIn o.dst n = true ∧ pairsP p0 P0 0 = some q ∧ p0.ct = [] ∧ p0.mask = q.mask ∧ p0.kind = kindD Ty o.op ∧ PairOk q P0 0 ∧ q.kind = kindD Ty o.op ∧ q.reads = readsOf ops o ∧ q.dst = o.dst ∧ q.kind ≠ 5 ∧ planL Ty n ops l (P0 ++ [q]) = some ((P0 ++ [q]) ++ ps') := by
  simp only [planL] at h
  split at h
  · rename_i m hm hd
    split at h
    · rename_i q hq
      split at h
      · cases h
      · rename_i h5
        obtain ⟨ps', h1, h2⟩ := planL_some l _ _ h
        obtain ⟨⟨e1, e2, e3, e4⟩, hpo⟩ := pairsP_spec P0 0 q hq
        have hps : ps = q :: ps' := by
          rw [List.append_assoc] at h1
          exact List.append_cancel_left h1
        refine ⟨q, ps', _, hps, by rw [e1]; exact hm, hd, hq, rfl, e1.symm, rfl, hpo, e2, e3, e4, ?_, ?_⟩
        · have e2' : q.kind = kindD Ty o.op := e2
          rw [e2']; intro h6; rw [h6] at h5; cases h5
        · rw [h, hps, List.append_assoc]; rfl
    · cases h
  · cases h

theorem isCall_some {op : Op} {f : Operand} {args : List Operand} (h : isCall op = some (f, args)) : ∃ as ts, op = .call ⟨.value f, as, ts⟩ ∧ as.toList = args := by
  cases op with
  | call c =>
    obtain ⟨callee, as, ts⟩ := c
    cases callee with
    | value g => simp only [isCall, Option.some.injEq, Prod.mk.injEq] at h; obtain ⟨rfl, rfl⟩ := h; exact ⟨as, ts, rfl, rfl⟩
    | _ => simp [isCall] at h
  | _ => simp [isCall] at h

theorem isCall_none {op : Op} (h : isCall op = none) : kindD Ty op ≠ 4 := by
  cases op with
  | call c =>
    obtain ⟨callee, as, ts⟩ := c
    cases callee with
    | value g => simp [isCall] at h
    | builtin b => cases b <;> simp [kindD]
    | _ => simp [kindD]
  | convert src dst x =>
    simp only [kindD]
    split
    · rename_i i j _ _
      cases isNum j.d with
      | true => simp
      | false => simp only [cond_false]; split <;> simp
    · simp
  | makeMap t r => cases r <;> simp [kindD]
  | _ => simp [kindD]

theorem kind_lt {op : Op} (h4 : kindD Ty op ≠ 4) (h5 : kindD Ty op ≠ 5) : kindD Ty op = 0 ∨ kindD Ty op = 1 ∨ kindD Ty op = 2 ∨ kindD Ty op = 3 := by
  cases op with
  | call c =>
    obtain ⟨callee, as, ts⟩ := c
    cases callee with
    | value g => simp [kindD] at h4
    | builtin b => cases b <;> simp [kindD] at h5 ⊢
    | _ => simp [kindD] at h5
  | convert src dst x =>
    simp only [kindD] at h4 h5 ⊢
    split
    · rename_i i j h1 h2
      rw [h1, h2] at h5
      cases hn : isNum j.d with
      | true => simp
      | false =>
        simp only [cond_false]
        simp only [hn, cond_false] at h5
        split
        · simp
        · simp
        · split at h5 <;> first | (exact absurd rfl h5) | skip
          · rename_i hx _ _ _ _ hy; exact absurd hy (hx _)
          · rename_i hx _ _ _ hy hz; exact absurd hz (hx _ hy)
    · rename_i hx
      split at h5
      · rename_i i j h1 h2; exact absurd h2 (hx _ _ h1)
      · exact absurd rfl h5
  | makeMap t r => cases r <;> simp [kindD] at h5 ⊢
  | _ => simp [kindD] at h4 h5 ⊢

theorem local_any {op : Op} {ev evK : Operand → Option Value} {h h1 : H} {v : Value} {ds : List Value} (h4 : kindD Ty op ≠ 4) (h5 : kindD Ty op ≠ 5) (hlw : h.lw ≤ h.n) (hds : domsK Ty evK op = some ds) (hev : EvLe op.operands.toList evK ev) (hpr : Pres h (idsV ds)) (he : aOp Ty FT ev op h = some (v, h1)) :
    Loc1 Ty FT ev op h v h1 (kindD Ty op) ds := by
  rcases kind_lt h4 h5 with hk | hk | hk | hk
  · rw [hk]; exact local0 hk hlw he
  · rw [hk]; exact local1 hk hlw he
  · rw [hk]; exact local2 hk hlw hds hev hpr he
  · rw [hk]; exact local3 hk hlw hds hev hpr he

theorem cutH_wf {h : H} (hW : Wf h) (cs : List (H × H)) : Wf (cutH h cs) := by
  intro id o' ho
  have hg : (cutH h cs).get id = (copyIds h (emptyH h.n) (idsOf (cutL cs))).get id := rfl
  rw [hg, copyIds_get] at ho
  split at ho
  · cases ho
  · exact hW id o' ho

theorem opCD_sound (hF : LeF F FT) {ev ev' : Operand → Option Value} (hfn : ∀ g, ev' (.func g) = some (.func (.func g) #[] #[])) {p : Pl} {rs : List Dn} {f : Operand} {as : Array Operand} {ts : Array TypeId} {h : H} {k : Value → H → H → Rz} {r : Value × H}
    (hWc : Wf (cutH h (heapsK rs p.ct))) (hev : EvLe (Op.call ⟨.value f, as, ts⟩).operands.toList ev ev') (he : opCD F ev p rs f as.toList h k = some r) :
    ∃ v h1, aOp Ty FT ev' (.call ⟨.value f, as, ts⟩) (cutH h (heapsK rs p.ct)) = some (v, h1) ∧ isUndef v = false ∧ unK h h1 (valsK rs p.ql) = true ∧ k v h1 (bakH h h1 (heapsK rs p.ct)) = some r := by
  have hargs : ∀ vs, argsK ev as.toList = some vs → aMapM ev' as.toList = some vs ∧ okArgs vs = true := fun vs hvs =>
    argsK_some (hev.mono fun y hy => by simp at hy; simp [Op.operands, Call.operands, hy]) hvs
  have hl0 : lw0 h = cutH h [] := rfl
  have dyn : ∀ (fv : Value) (vs : List Value), p.ct = [] → ev f = some fv → argsK ev as.toList = some vs → dyD F fv vs h (valsK rs p.ql) k = some r →
      ∃ v h1, aOp Ty FT ev' (.call ⟨.value f, as, ts⟩) (cutH h (heapsK rs p.ct)) = some (v, h1) ∧ isUndef v = false ∧ unK h h1 (valsK rs p.ql) = true ∧ k v h1 (bakH h h1 (heapsK rs p.ct)) = some r := by
    intro fv vs hct hfv hvs he
    obtain ⟨a, b⟩ := hargs vs hvs
    have hfv' := (hev f (by simp [Op.operands, Call.operands]) fv hfv).1
    unfold dyD dyK at he
    split at he
    · rename_i g first captured
      rcases condQ he with ⟨hc, he⟩ | ⟨_, he⟩
      · obtain ⟨v, h1, hv, hu, he⟩ := bVH_some he
        rw [Bool.and_eq_true] at hc
        obtain ⟨f', hf', hfr⟩ := hF g _ _ v h1 hv (by rw [hl0, ← show heapsK rs p.ct = [] by rw [hct]; rfl]; exact hWc) (by
          simp only [okArgs, List.all_append, Bool.and_eq_true] at hc b ⊢
          exact ⟨⟨hc.1, b⟩, hc.2⟩)
        rcases condQ he with ⟨hun, he⟩ | ⟨_, he⟩
        · refine ⟨v, h1, ?_, hu, hun, ?_⟩
          · rw [hct]
            show aOp Ty FT ev' _ (cutH h []) = _
            rw [← hl0]
            simp only [aOp, hfv', a, aCall, hf', hfr]
          · rw [hct]; exact he
        · cases he
      · cases he
    · cases he
  cases f with
  | func g =>
    simp only [opCD] at he
    obtain ⟨vs, hvs, he2⟩ := oV_some he
    clear he
    obtain ⟨a, b⟩ := hargs vs hvs
    split at he2
    · rename_i hct
      obtain ⟨v, h1, hv, hu, he3⟩ := bVH_some he2
      rcases condQ he3 with ⟨hun, he4⟩ | ⟨_, he4⟩
      · obtain ⟨f', hf', hfr⟩ := hF g _ _ v h1 hv (by rw [hl0, ← show heapsK rs p.ct = [] by rw [hct]; rfl]; exact hWc) b
        refine ⟨v, h1, ?_, hu, hun, by rw [hct]; exact he4⟩
        rw [hct]
        show aOp Ty FT ev' _ (cutH h []) = _
        rw [← hl0]
        simp only [aOp, hfn, a, aCall, List.nil_append, List.append_nil, hf', hfr]
      · cases he4
    · obtain ⟨v, h1, hv, hu, he3⟩ := bVH_some he2
      rcases condQ he3 with ⟨hun, he4⟩ | ⟨_, he4⟩
      · obtain ⟨f', hf', hfr⟩ := hF g _ _ v h1 hv hWc b
        exact ⟨v, h1, by simp only [aOp, hfn, a, aCall, List.nil_append, List.append_nil, hf', hfr], hu, hun, he4⟩
      · cases he4
  | _ =>
    simp only [opCD] at he
    split at he
    · rename_i hct
      obtain ⟨fv, hfv, he2⟩ := oV_some he
      obtain ⟨vs, hvs, he3⟩ := oV_some he2
      exact dyn fv vs hct hfv hvs he3
    · cases he

theorem evDrawK_sound (hF : LeF F FT) (hQ : QT FT) {ops : Array Oper} : ∀ (l : List Oper) (P0 ps : List Pl) (rs : List Dn) (recs : List Rec) (kf ff : Tr Value) (h : H) (κ : Tr Value → H → Rz) (r : Value × H),
    planL Ty n ops l P0 = some (P0 ++ ps) → InvK n P0 rs recs kf ff h → evDrawK Ty F n ops.toList l ps rs kf h κ = some r →
    ∃ kf' ff' h', drawEvF Ty FT n ops l recs ff h = some (ff', h') ∧ FrOk n ff' ∧ SubFr kf' ff' ∧ Wf h' ∧ κ kf' h' = some r
  | [], P0, ps, rs, recs, kf, ff, h, κ, r, _, v, he => by
    simp only [evDrawK] at he
    exact ⟨kf, ff, h, rfl, v.ok, v.sub, v.wf, he⟩
  | o :: l, P0, ps0, rs, recs, kf, ff, h, κ, r, hpl, v, he => by
    obtain ⟨q, ps, p0, rfl, hm, hd, hp0, hct0, hmk, hk0, hpo, hk, hrd, hdst, h5, hpl'⟩ := planL_cons hpl
    have hev : EvLe o.op.operands.toList (evalF kf) (evalRF (readsOf ops o) ff) := v.sub.evR v.ok
    have hok1 : ∀ u, FrOk n (putFr n ff o.dst u) := fun u => putFr_ok v.ok _ _
    have one : ∀ {u : Value}, isUndef u = false → ∀ w, some u = some w → w = u ∧ isUndef u = false := fun hu w e => by cases e; exact ⟨rfl, hu⟩
    have nul : ∀ {u : Value}, ∀ w, (none : Option Value) = some w → w = u ∧ isUndef u = false := fun w e => by cases e
    -- not wanted
    have skip : ∀ (kf1 : Tr Value) (ds : List Value), wantFr ops.toList o ff = some false → SubFr kf1 (putFr n ff o.dst skipA) → evDrawK Ty F n ops.toList l ps (rs ++ [(ds, h, h)]) kf1 h κ = some r →
        ∃ kf' ff' h', drawEvF Ty FT n ops (o :: l) recs ff h = some (ff', h') ∧ FrOk n ff' ∧ SubFr kf' ff' ∧ Wf h' ∧ κ kf' h' = some r := by
      intro kf1 ds hw hs1 hk1
      obtain ⟨rec, e1, e2⟩ := drawEvF_skip (Ty := Ty) (FT := FT) (l := l) v hm hrd hdst hd hpo hw
      rw [e1]
      exact evDrawK_sound hF hQ l _ ps _ _ kf1 _ h κ r hpl' (v.push (e2 ds) (Nat.le_refl _) v.wf (Nat.le_refl _) (hok1 _) hs1 v.wf v.lw) hk1
    have lws : ∀ {h1 : H}, min h.lw h1.lw ≤ h1.n → True := fun _ => trivial
    simp only [evDrawK] at he
    cases hc : isCall o.op with
    | some p =>
      obtain ⟨f, args⟩ := p
      rw [hc] at he
      simp only at he
      obtain ⟨as, ts, hop, has⟩ := isCall_some hc
      subst has
      have hk4 : q.kind = 4 := by rw [hk, hop]; rfl
      have hdom : domOf (evalRF (readsOf ops o) ff) o.op = none := by rw [hop]; rfl
      have hev2 : EvLe (Op.call ⟨.value f, as, ts⟩).operands.toList (evalF kf) (evalRF (readsOf ops o) ff) := by rw [← hop]; exact hev
      have call : wantFr ops.toList o ff = some true → opCD F (evalF kf) q rs f as.toList h (fun v h1 h' => evDrawK Ty F n ops.toList l ps (rs ++ [([], h, h1)]) (putO n kf o.dst (some v)) h' κ) = some r →
          ∃ kf' ff' h', drawEvF Ty FT n ops (o :: l) recs ff h = some (ff', h') ∧ FrOk n ff' ∧ SubFr kf' ff' ∧ Wf h' ∧ κ kf' h' = some r := by
        intro hw hcall
        obtain ⟨u, h1, ha, hu, hun, hk1⟩ := opCD_sound (Ty := Ty) hF (evalRF_func _ ff) (cutH_wf v.wf _) hev2 hcall
        rw [← hop] at ha
        obtain ⟨rec, e1, e2, e3, e4, e5⟩ := drawEvF_call (l := l) hQ v hp0 hct0 hmk (by rw [hk0, ← hk]; exact hk4) hm hrd hdst hd hpo hw hk4 hdom hun ha
        rw [e1]
        refine evDrawK_sound hF hQ l _ ps _ _ _ _ _ κ r hpl' (v.push e2 (Nat.le_refl _) e3 e4 (hok1 _) (v.sub.put (one hu)) e5 ?_) hk1
        show min h.lw h1.lw ≤ h1.n
        have := v.lw
        omega
      cases hg : o.guard with
      | none =>
        rw [hg] at he
        exact call (want_none hg) he
      | some p =>
        obtain ⟨j, want⟩ := p
        rw [hg] at he
        simp only at he
        obtain ⟨g, hgv, he2⟩ := oV_some he
        clear he
        rcases guardD_some he2 with ⟨b, hb, hbw, hk1⟩ | ⟨hw, hk1⟩
        · exact call (by rw [(want_of (n := n) v.sub hg hgv).1 b hb, hbw]) hk1
        · exact skip _ [] (want_skip v.sub hg hgv hw) (v.sub.put (one rfl)) hk1
    | none =>
      rw [hc] at he
      simp only at he
      obtain ⟨ds, hds, he2⟩ := oV_some he
      clear he
      have h4 : kindD Ty o.op ≠ 4 := isCall_none hc
      have h5' : kindD Ty o.op ≠ 5 := by rw [← hk]; exact h5
      have hkl : q.kind = 0 ∨ q.kind = 1 ∨ q.kind = 2 ∨ q.kind = 3 := by rw [hk]; exact kind_lt h4 h5'
      have prim : ∀ (u : Value) (h1 : H) (kf1 : Tr Value) (ds1 : List Value), wantFr ops.toList o ff = some true → aOp Ty FT (evalRF (readsOf ops o) ff) o.op h = some (u, h1) → Loc1 Ty FT (evalRF (readsOf ops o) ff) o.op h u h1 q.kind ds1 → Chk q rs ds1 h → SubFr kf1 (putFr n ff o.dst u) → evDrawK Ty F n ops.toList l ps (rs ++ [(ds1, h, h1)]) kf1 h1 κ = some r →
          ∃ kf' ff' h', drawEvF Ty FT n ops (o :: l) recs ff h = some (ff', h') ∧ FrOk n ff' ∧ SubFr kf' ff' ∧ Wf h' ∧ κ kf' h' = some r := by
        intro u h1 kf1 ds1 hw ha hl ck hs1 hk1
        obtain ⟨rec, e1, e2, e3⟩ := drawEvF_prim (l := l) hQ v hm hrd hdst hd hpo hw hk hkl ck ha hl
        rw [e1]
        have hW1 : Wf h1 := e3.dom v.wf
        exact evDrawK_sound hF hQ l _ ps _ _ kf1 _ h1 κ r hpl' (v.push e2 (Nat.le_refl _) hW1 e3.n (hok1 _) hs1 hW1 (lw_of e3 v.lw)) hk1
      have loc : ∀ {u : Value} {h1 : H}, Chk q rs ds h → aOp Ty FT (evalRF (readsOf ops o) ff) o.op h = some (u, h1) → Loc1 Ty FT (evalRF (readsOf ops o) ff) o.op h u h1 q.kind ds := fun ck ha => by
        rw [hk]; exact local_any h4 h5' v.lw hds hev ck.pres ha
      cases hg : o.guard with
      | none =>
        rw [hg] at he2
        simp only at he2
        cases hmv : mvOf o.op with
        | some x =>
          rw [hmv] at he2
          have ha := aOp_mv (Ty := Ty) (FT := FT) hmv (evalRF (readsOf ops o) ff) h
          have hk00 : kindD Ty o.op = 0 := by rcases mvOf_some hmv with e | e <;> rw [e] <;> rfl
          exact prim _ h _ [] (want_none hg) ha (by rw [hk, hk00]; exact local0 hk00 v.lw ha) (Chk.nil ..) (put_mv v.sub (mv_mem hmv) hev) he2
        | none =>
          rw [hmv] at he2
          simp only at he2
          cases hE : isEff o.op with
          | true =>
            rw [hE] at he2
            obtain ⟨ck, hk1⟩ := chkK_some he2
            obtain ⟨h1, ha, hk2⟩ := opE_sound (FT := FT) hev hk1
            exact prim _ h1 _ ds (want_none hg) ha (loc ck ha) ck (v.sub.put nul) hk2
          | false =>
            rw [hE] at he2
            obtain ⟨ck, hk1⟩ := chkK_some he2
            obtain ⟨u, h1, ha, hu, hk2⟩ := opV_sound hF (evalRF_func _ ff) v.wf hev hk1
            exact prim u h1 _ ds (want_none hg) ha (loc ck ha) ck (v.sub.put (one hu)) hk2
      | some p =>
        obtain ⟨j, want⟩ := p
        rw [hg] at he2
        simp only at he2
        obtain ⟨g, hgv, he3⟩ := oV_some he2
        clear he2
        cases hE : isEff o.op with
        | true =>
          rw [hE] at he3
          rcases guardE_some he3 with ⟨b, hb, hbw, hk1⟩ | ⟨hw, hk1⟩
          · obtain ⟨ck, hk2⟩ := chkK_some hk1
            obtain ⟨h1, ha, hk3⟩ := opE_sound (FT := FT) hev hk2
            exact prim _ h1 _ ds (by rw [(want_of (n := n) v.sub hg hgv).1 b hb, hbw]) ha (loc ck ha) ck (v.sub.put nul) hk3
          · exact skip _ ds (want_skip v.sub hg hgv hw) (v.sub.put nul) hk1
        | false =>
          rw [hE] at he3
          rcases guardV_some he3 with ⟨b, hb, hbw, hk1⟩ | ⟨hw, hk1⟩
          · obtain ⟨ck, hk2⟩ := chkK_some hk1
            obtain ⟨u, h1, ha, hu, hk3⟩ := opV_sound hF (evalRF_func _ ff) v.wf hev hk2
            exact prim u h1 _ ds (by rw [(want_of (n := n) v.sub hg hgv).1 b hb, hbw]) ha (loc ck ha) ck (v.sub.put (one hu)) hk3
          · exact skip _ ds (want_skip v.sub hg hgv hw) (v.sub.put (one rfl)) hk1
end
end
end Go.Ab
