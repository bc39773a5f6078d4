/- Drawn regions and code on the machine in passing style: what it gives, the machine gives. Conditions: none. -/
import Derived.Test.YtcgoamfjpnkiiaaGreatAbZc
set_option linter.all false
namespace Go.Ab
noncomputable section
open Go.RowKit

section
variable {Ty : Types} {F : FK} {FT : FunT} {n : Nat}

theorem apart_skip {p q : Pl} {d : Dn} {r : Rec} (hr : RelD p d r) (hsl : slotP p q.reads q.dst = true) : apartOk r q.reads q.dst (some []) false [] = true := by
  unfold apartOk
  rw [slot_eq hr.reads hr.dst, hsl, Bool.true_and, heapOk_nil2]
  rfl

/-- One that was done ahead and a call: apart. -/
theorem apart_call {p q : Pl} {d : Dn} {r : Rec} {rs : List Dn} {h h1 : H} {i : Nat} (hr : RelD p d r) (hd : rs[i]? = some d) (hu : unK h h1 (valsK rs q.ql) = true)
    (hsl : slotP p q.reads q.dst = true) {a : Pr} (hp : pairP p.kind q.kind = some a) (hql : a.ql = true → i ∈ q.ql) (hk : q.kind = 4) (hn : d.2.1.n ≤ h.n) :
    apartOk r q.reads q.dst none (!Nat.beq h1.lw h.n) (keptOf h h1 (List.range h.n)) = true := by
  unfold apartOk
  rw [slot_eq hr.reads hr.dst, hsl, Bool.true_and, Bool.and_true]
  rcases hr.cases with ⟨h1', h2⟩ | ⟨h0, h1', ids1, h2, h3⟩ | ⟨h0, _⟩ | ⟨h0, _⟩
  · rw [h1', h2]; exact heapOk_nil1
  · have ha : a.ql = true := by rw [h0, hk] at hp; cases hp; rfl
    have hs : safeOk (!Nat.beq h1.lw h.n) (keptOf h h1 (List.range h.n)) (some ids1) = true := by
      unfold safeOk
      rw [Bool.or_eq_true]
      rcases unK_spec hu with hu | hu
      · left; rw [hu]; rfl
      · right
        show (ids1.all fun id => (keptOf h h1 (List.range h.n)).contains id) = true
        rw [List.all_eq_true]
        intro id hid
        obtain ⟨m1, m2⟩ := h3 id hid
        have hm := idsV_mono (mem_valsK hd (hql ha)) id m1
        simp only [List.contains_iff_mem, keptOf, List.mem_filter, List.mem_range, Bool.and_eq_true]
        have hlt : id < h.n := by omega
        exact ⟨hlt, blt_iff.2 hlt, hu id hm⟩
    rw [h1', h2]
    unfold heapOk
    rw [hs]
    rfl
  · rw [h0, hk] at hp; cases hp
  · rw [h0, hk] at hp; cases hp

theorem apartAll_of {m : Nat} {reads : List Nat} {dst : Option Nat} {dom : Option (List Nat)} {wr : Bool} {kept : List Nat} : ∀ (recs : List Rec) (i0 : Nat), (∀ (i : Nat) r, recs[i]? = some r → m.testBit (i0 + i) = false → apartOk r reads dst dom wr kept = true) → apartAll m reads dst dom wr kept recs i0 = true
  | [], _, _ => rfl
  | r :: recs, i0, h => by
    simp only [apartAll, Bool.and_eq_true, Bool.or_eq_true]
    refine ⟨?_, apartAll_of recs (i0 + 1) fun i r' hr hm => h (i + 1) r' (by simpa using hr) (by rwa [show i0 + (i + 1) = i0 + 1 + i by omega])⟩
    cases hb : m.testBit i0 with
    | true => exact .inl rfl
    | false => exact .inr (h 0 r rfl hb)

/-- What a call does not see. -/
theorem cutOf_eq {p : Pl} (hk : p.kind = 4) {rs : List Dn} : ∀ (P0 : List Pl) (recs : List Rec) (i0 : Nat) (q : Pl), P0.length = recs.length → (∀ (i : Nat) pl r, P0[i]? = some pl → recs[i]? = some r → ∃ d, rs[i0 + i]? = some d ∧ RelD pl d r) → pairsP p P0 i0 = some q →
    (∀ x, x ∈ p.ct → False) → cutOf p.mask recs i0 = cutL (heapsK rs q.ct)
  | [], [], i0, q, _, _, h, hc => by
    simp only [pairsP, Option.some.injEq] at h
    subst h
    cases hp : p.ct with
    | nil => rfl
    | cons x l => exact (hc x (by rw [hp]; exact List.mem_cons_self)).elim
  | r0 :: P0, rc :: recs, i0, q, hl, hrel, h, hc => by
    simp only [pairsP] at h
    split at h
    · cases h
    · rename_i q1 hq1
      have ih := cutOf_eq hk (rs := rs) P0 recs (i0 + 1) q1 (by simpa using hl) (fun i pl r h1 h2 => by
        obtain ⟨d, a, b⟩ := hrel (i + 1) pl r (by simpa using h1) (by simpa using h2)
        exact ⟨d, by rw [show i0 + 1 + i = i0 + (i + 1) by omega]; exact a, b⟩) hq1 hc
      obtain ⟨d, hd, hr⟩ := hrel 0 r0 rc rfl rfl
      simp only [cutOf]
      split at h
      · rename_i hb
        cases h
        rw [hb, Bool.true_or]
        exact ih
      · rename_i hb
        rw [hb, Bool.false_or]
        split at h
        · rename_i a _ hpa
          cases h
          show cond (Nat.beq rc.lo rc.hi) (cutOf p.mask recs (i0 + 1)) ((rc.lo, rc.hi) :: cutOf p.mask recs (i0 + 1)) = cutL (heapsK rs (cond a.ct (i0 :: q1.ct) q1.ct))
          rw [ih, hr.lo, hr.hi]
          cases hct : a.ct with
          | true =>
            rw [Nat.add_zero] at hd
            show _ = cutL (heapsK rs (i0 :: q1.ct))
            simp only [heapsK, hd, cutL]
          | false =>
            have hs : r0.kind = 0 ∨ r0.kind = 2 := by
              rw [hk] at hpa
              unfold pairP at hpa
              split at hpa <;> first
                | (simp_all; done)
                | (cases hpa; cases hct; done)
                | (cases hpa; done)
            have he := hr.same hs
            rw [he, Nat.beq_refl]
            rfl
        · cases h
  | [], _ :: _, _, _, hl, _, _, _ => by simp at hl
  | _ :: _, [], _, _, hl, _, _, _ => by simp at hl

theorem planL_some {ops : Array Oper} : ∀ (l : List Oper) (P0 P : List Pl), planL Ty n ops l P0 = some P → ∃ ps, P = P0 ++ ps ∧ ps.length = l.length
  | [], P0, P, h => by simp only [planL, Option.some.injEq] at h; exact ⟨[], by simp [h], rfl⟩
  | o :: l, P0, P, h => by
    simp only [planL] at h
    split at h
    · split at h
      · split at h
        · cases h
        · obtain ⟨ps, h1, h2⟩ := planL_some l _ P h
          exact ⟨_ :: ps, by rw [h1, List.append_assoc]; rfl, by simp [h2]⟩
      · cases h
    · cases h

theorem keep_get {recs : List Rec} {rs : List Dn} {P0 : List Pl} {p : Pl} {d : Dn} {r : Rec} (l1 : P0.length = rs.length) (l2 : P0.length = recs.length)
    (h : ∀ (i : Nat) p d r, P0[i]? = some p → rs[i]? = some d → recs[i]? = some r → RelD p d r ∧ d.2.2.n ≤ d.2.2.n) (hn : RelD p d r) :
    ∀ (i : Nat) p' d' r', (P0 ++ [p])[i]? = some p' → (rs ++ [d])[i]? = some d' → (recs ++ [r])[i]? = some r' → RelD p' d' r' := by
  intro i p' d' r' h1 h2 h3
  by_cases hi : i < P0.length
  · rw [List.getElem?_append_left hi] at h1
    rw [List.getElem?_append_left (by omega)] at h2
    rw [List.getElem?_append_left (by omega)] at h3
    exact (h i p' d' r' h1 h2 h3).1
  · rw [List.getElem?_append_right (by omega)] at h1 h2 h3
    have e : i = P0.length := by
      rcases Nat.lt_or_ge (i - P0.length) 1 with h | h
      · omega
      · rw [List.getElem?_eq_none (by simpa using h)] at h1; cases h1
    subst e
    rw [l1, Nat.sub_self] at h2
    rw [l2, Nat.sub_self] at h3
    rw [Nat.sub_self] at h1
    simp only [List.getElem?_cons_zero, Option.some.injEq] at h1 h2 h3
    subst h1; subst h2; subst h3
    exact hn

theorem Nat.beq_self' (a : Nat) : Nat.beq a a = true := Nat.beq_refl a

/-- The state of a drawn region on both machines. -/
structure InvK (n : Nat) (P0 : List Pl) (rs : List Dn) (recs : List Rec) (kf ff : Tr Value) (h : H) : Prop where
  l1 : P0.length = rs.length
  l2 : P0.length = recs.length
  rel : ∀ (i : Nat) p d r, P0[i]? = some p → rs[i]? = some d → recs[i]? = some r → RelD p d r
  top : ∀ (i : Nat) d, rs[i]? = some d → d.2.2.n ≤ h.n ∧ Wf d.2.2
  ok : FrOk n ff
  sub : SubFr kf ff
  wf : Wf h
  lw : h.lw ≤ h.n

theorem InvK.push {P0 : List Pl} {rs : List Dn} {recs : List Rec} {kf ff kf1 ff1 : Tr Value} {h h1 : H} {p : Pl} {d : Dn} {r : Rec} (v : InvK n P0 rs recs kf ff h) (hr : RelD p d r) (ht : d.2.2.n ≤ h1.n) (hwd : Wf d.2.2) (hn : h.n ≤ h1.n) (ok : FrOk n ff1) (sub : SubFr kf1 ff1) (wf : Wf h1) (lw : h1.lw ≤ h1.n) :
    InvK n (P0 ++ [p]) (rs ++ [d]) (recs ++ [r]) kf1 ff1 h1 where
  l1 := by simp [v.l1]
  l2 := by simp [v.l2]
  rel := keep_get v.l1 v.l2 (fun i p d r a b c => ⟨v.rel i p d r a b c, Nat.le_refl _⟩) hr
  top := fun i d' hd => by
    by_cases hi : i < rs.length
    · rw [List.getElem?_append_left hi] at hd
      obtain ⟨a, b⟩ := v.top i d' hd
      exact ⟨by omega, b⟩
    · rw [List.getElem?_append_right (by omega)] at hd
      rcases Nat.lt_or_ge (i - rs.length) 1 with hh | hh
      · have e : i - rs.length = 0 := by omega
        rw [e] at hd
        simp only [List.getElem?_cons_zero, Option.some.injEq] at hd
        subst hd
        exact ⟨ht, hwd⟩
      · rw [List.getElem?_eq_none (by simpa using hh)] at hd; cases hd
  ok := ok
  sub := sub
  wf := wf
  lw := lw

theorem InvK.pl {P0 : List Pl} {rs : List Dn} {recs : List Rec} {kf ff : Tr Value} {h : H} (v : InvK n P0 rs recs kf ff h) {i : Nat} {r : Rec} (hr : recs[i]? = some r) : ∃ p d, P0[i]? = some p ∧ rs[i]? = some d ∧ RelD p d r := by
  have hi : i < recs.length := (List.getElem?_eq_some_iff.1 hr).1
  have h1 : P0[i]? = some (P0[i]'(by have := v.l2; omega)) := List.getElem?_eq_getElem _
  have h2 : rs[i]? = some (rs[i]'(by have := v.l1; have := v.l2; omega)) := List.getElem?_eq_getElem _
  exact ⟨_, _, h1, h2, v.rel i _ _ _ h1 h2 hr⟩

theorem InvK.mask {P0 : List Pl} {rs : List Dn} {recs : List Rec} {kf ff : Tr Value} {h : H} (v : InvK n P0 rs recs kf ff h) (es : List Edge) : maskL recs es = maskP P0 es :=
  maskL_eq v.l2 (fun i p r h1 h2 => by
    obtain ⟨p', d, a, b, c⟩ := v.pl h2
    rw [h1] at a; cases a
    exact c.mask) es

theorem lw_of {h h1 : H} (q : Q h h1) (hl : h.lw ≤ h.n) : h1.lw ≤ h1.n := by have := q.lw; have := q.n; omega

/-- What a step of the other machine is. -/
theorem drawEvF_skip {ops : Array Oper} {o : Oper} {l : List Oper} {P0 : List Pl} {rs : List Dn} {recs : List Rec} {kf ff : Tr Value} {h : H} (v : InvK n P0 rs recs kf ff h) {q : Pl} (hm : maskP P0 o.after.toList = some q.mask) (hrd : q.reads = readsOf ops o) (hdst : q.dst = o.dst)
    (hd : dstIn o.dst n = true) (hq : PairOk q P0 0) (hw : wantFr ops.toList o ff = some false) :
    ∃ rec : Rec, drawEvF Ty FT n ops (o :: l) recs ff h = drawEvF Ty FT n ops l (recs ++ [rec]) (putFr n ff o.dst skipA) h ∧ ∀ ds : List Value, RelD q (ds, h, h) rec := by
  refine ⟨{ mask := q.mask, reads := readsOf ops o, dst := o.dst, val := skipA, dom := some [], cut := [], wr := false, lo := h.n, hi := h.n, hin := emptyH h.n, hout := emptyH h.n, want := false, ts := toL n ff, o := o }, ?_, fun ds =>
    ⟨rfl, hrd.symm, hdst.symm, rfl, rfl, Nat.le_refl _, fun _ => rfl, .inl ⟨rfl, rfl⟩⟩⟩
  have ha : apartAll q.mask (readsOf ops o) o.dst (some []) false [] recs 0 = true := apartAll_of recs 0 fun i r hr hb => by
    obtain ⟨p, d, h1, h2, h3⟩ := v.pl hr
    obtain ⟨s1, _⟩ := hq i p h1 hb
    rw [← hrd, ← hdst]
    exact apart_skip h3 s1
  simp only [drawEvF, v.mask, hm, hw, hd, ha, Bool.and_self, cond_true]

theorem drawEvF_prim (hQ : QT FT) {ops : Array Oper} {o : Oper} {l : List Oper} {P0 : List Pl} {rs : List Dn} {recs : List Rec} {kf ff : Tr Value} {h h1 : H} {u : Value} (v : InvK n P0 rs recs kf ff h) {q : Pl} {ds : List Value} (hm : maskP P0 o.after.toList = some q.mask) (hrd : q.reads = readsOf ops o) (hdst : q.dst = o.dst)
    (hd : dstIn o.dst n = true) (hq : PairOk q P0 0) (hw : wantFr ops.toList o ff = some true) (hk : q.kind = kindD Ty o.op) (h4 : q.kind = 0 ∨ q.kind = 1 ∨ q.kind = 2 ∨ q.kind = 3) (ck : Chk q rs ds h)
    (ha : aOp Ty FT (evalRF (readsOf ops o) ff) o.op h = some (u, h1)) (hl : Loc1 Ty FT (evalRF (readsOf ops o) ff) o.op h u h1 q.kind ds) :
    ∃ rec : Rec, drawEvF Ty FT n ops (o :: l) recs ff h = drawEvF Ty FT n ops l (recs ++ [rec]) (putFr n ff o.dst u) h1 ∧ RelD q (ds, h, h1) rec ∧ Q h h1 := by
  have hqq := aOp_Q hQ v.wf ha
  obtain ⟨ids, h2, hdom, hsub, hop, hmer, hlw, hsame, hnil⟩ := hl
  have hn2 : h2.n = h1.n := by rw [← hmer]; rfl
  have hlt : ∀ id ∈ ids, id < h.n := fun id hid => (ck.pres id (hsub id hid)).2
  have hwr : q.kind ≠ 3 → (!Nat.beq h2.lw h.n) = false := fun hk3 => by rw [hlw hk3, Nat.beq_refl]; rfl
  refine ⟨{ mask := q.mask, reads := readsOf ops o, dst := o.dst, val := u, dom := some ids, cut := [], wr := !Nat.beq h2.lw h.n, lo := h.n, hi := h2.n, hin := copyIds (emptyH h.n) h ids, hout := h2, want := true, ts := toL n ff, o := o }, ?_, ?_, hqq⟩
  · have hap : apartAll q.mask (readsOf ops o) o.dst (some ids) (!Nat.beq h2.lw h.n) [] recs 0 = true := apartAll_of recs 0 fun i r hr hb => by
      rw [Nat.zero_add] at hb
      obtain ⟨p, d, g1, g2, g3⟩ := v.pl hr
      obtain ⟨s1, a, s2, k1, k2, k3, k4, k5⟩ := hq i p g1 (by rw [Nat.zero_add]; exact hb)
      rw [← hrd, ← hdst]
      rw [Nat.zero_add] at k3 k4 k5
      refine apart_prim g3 g2 ck s1 s2 k3 k4 k5 hsub ?_ (v.top i d g2).2
      rcases h4 with h4 | h4 | h4 | h4
      · exact .inl ⟨.inl h4, hnil (.inl h4), hwr (by omega)⟩
      · exact .inl ⟨.inr h4, hnil (.inr h4), hwr (by omega)⟩
      · exact .inr (.inl ⟨h4, hwr (by omega)⟩)
      · exact .inr (.inr h4)
    have hall : (ids.all fun id => Nat.blt id h.n) = true := by
      rw [List.all_eq_true]
      exact fun id hid => blt_iff.2 (hlt id hid)
    have hop2 : aOp Ty FT (evalRF (readsOf ops o) ff) o.op (copyIds (emptyH h.n) h ids) = some (u, h2) := hop
    simp only [drawEvF, v.mask, hm, hw, hdom, hall, cond_true, hop2, hd, hap, Bool.and_self]
    show drawEvF Ty FT n ops l _ _ (mergeH h h2 ids) = _
    rw [hmer]
  · refine ⟨rfl, hrd.symm, hdst.symm, rfl, hn2, hqq.n, fun hs => ?_, ?_⟩
    · show h.n = h1.n
      rw [← hn2, hsame hs]
    · rcases h4 with h4 | h4 | h4 | h4
      · exact .inl ⟨by rw [hnil (.inl h4)], hwr (by omega)⟩
      · exact .inl ⟨by rw [hnil (.inr h4)], hwr (by omega)⟩
      · exact .inr (.inl ⟨h4, hwr (by omega), ids, rfl, fun id hid => ⟨hsub id hid, hlt id hid⟩⟩)
      · exact .inr (.inr (.inl ⟨h4, rfl, ids, rfl, fun id hid => hsub id hid⟩))

theorem drawEvF_call (hQ : QT FT) {ops : Array Oper} {o : Oper} {l : List Oper} {P0 : List Pl} {rs : List Dn} {recs : List Rec} {kf ff : Tr Value} {h h1 : H} {u : Value} (v : InvK n P0 rs recs kf ff h) {q : Pl} {p0 : Pl} (hp0 : pairsP p0 P0 0 = some q) (hct0 : p0.ct = []) (hmk : p0.mask = q.mask) (hk0 : p0.kind = 4)
    (hm : maskP P0 o.after.toList = some q.mask) (hrd : q.reads = readsOf ops o) (hdst : q.dst = o.dst)
    (hd : dstIn o.dst n = true) (hq : PairOk q P0 0) (hw : wantFr ops.toList o ff = some true) (hk : q.kind = 4) (hdom : domOf (evalRF (readsOf ops o) ff) o.op = none)
    (hu : unK h h1 (valsK rs q.ql) = true)
    (ha : aOp Ty FT (evalRF (readsOf ops o) ff) o.op (cutH h (heapsK rs q.ct)) = some (u, h1)) :
    ∃ rec : Rec, drawEvF Ty FT n ops (o :: l) recs ff h = drawEvF Ty FT n ops l (recs ++ [rec]) (putFr n ff o.dst u) (bakH h h1 (heapsK rs q.ct)) ∧ RelD q ([], h, h1) rec ∧ Wf h1 ∧ h.n ≤ h1.n ∧ Wf (bakH h h1 (heapsK rs q.ct)) := by
  have hcut : cutOf q.mask recs 0 = cutL (heapsK rs q.ct) := by
    rw [← hmk]
    exact cutOf_eq hk0 P0 recs 0 q v.l2 (fun i pl r g1 g2 => by
      obtain ⟨p, d, a, b, c⟩ := v.pl g2
      rw [g1] at a; cases a
      exact ⟨d, by rw [Nat.zero_add]; exact b, c⟩) hp0 (fun x hx => by rw [hct0] at hx; cases hx)
  have hin : (cutH h (heapsK rs q.ct)) = { copyIds h (emptyH h.n) (idsOf (cutOf q.mask recs 0)) with lw := h.n } := by
    rw [hcut]
    exact H.ext' rfl (copyIds_n (emptyH h.n) (idsOf (cutL (heapsK rs q.ct))) h).symm rfl
  have hcutW : Wf (cutH h (heapsK rs q.ct)) := by
    intro id o' ho
    have hg : (cutH h (heapsK rs q.ct)).get id = (copyIds h (emptyH h.n) (idsOf (cutL (heapsK rs q.ct)))).get id := rfl
    rw [hg, copyIds_get] at ho
    split at ho
    · cases ho
    · exact v.wf id o' ho
  have hqq := aOp_Q hQ hcutW ha
  have hn1 : h.n ≤ h1.n := hqq.n
  have hW1 : Wf h1 := hqq.dom hcutW
  have hback : bakH h h1 (heapsK rs q.ct) = { copyIds h1 h (idsOf (cutOf q.mask recs 0)) with n := h1.n, lw := min h.lw h1.lw } := by
    rw [hcut]; rfl
  have hWb : Wf (bakH h h1 (heapsK rs q.ct)) := by
    intro id o' ho
    have hg : (bakH h h1 (heapsK rs q.ct)).get id = (copyIds h1 h (idsOf (cutL (heapsK rs q.ct)))).get id := rfl
    rw [hg, copyIds_get] at ho
    show id < h1.n
    split at ho
    · have := v.wf id o' ho; omega
    · exact hW1 id o' ho
  refine ⟨{ mask := q.mask, reads := readsOf ops o, dst := o.dst, val := u, dom := none, cut := cutOf q.mask recs 0, wr := !Nat.beq h1.lw h.n, lo := h.n, hi := h1.n, hin := { copyIds h (emptyH h.n) (idsOf (cutOf q.mask recs 0)) with lw := h.n }, hout := h1, want := true, ts := toL n ff, o := o, kept := keptOf h h1 (List.range h.n) }, ?_, ?_, hW1, hn1, hWb⟩
  · have hap : apartAll q.mask (readsOf ops o) o.dst none (!Nat.beq h1.lw h.n) (keptOf h h1 (List.range h.n)) recs 0 = true := apartAll_of recs 0 fun i r hr hb => by
      rw [Nat.zero_add] at hb
      obtain ⟨p, d, g1, g2, g3⟩ := v.pl hr
      obtain ⟨s1, a, s2, k1, k2, k3, k4, k5⟩ := hq i p g1 (by rw [Nat.zero_add]; exact hb)
      rw [← hrd, ← hdst]
      rw [Nat.zero_add] at k1
      exact apart_call g3 g2 hu s1 s2 k1 hk (by have := (v.top i d g2).1; have := g3.le; omega)
    rw [hin] at ha
    simp only [drawEvF, v.mask, hm, hw, hdom, ha, hd, hap, Bool.and_self, cond_true]
    rw [hback]
  · exact ⟨rfl, hrd.symm, hdst.symm, rfl, rfl, hn1, fun hs => by omega, .inr (.inr (.inr ⟨hk, rfl, rfl, rfl⟩))⟩
end
end
end Go.Ab
