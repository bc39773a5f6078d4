/- Regions on the machine in passing style: what it gives, the machine gives. Conditions: none. -/
import Derived.Test.YtcgoamfjpnkiiaaGreatAbZb
set_option linter.all false
namespace Go.Ab
noncomputable section
open Go.RowKit

theorem evalF_func (ff : Tr Value) (g : FuncId) : evalF ff (.func g) = some (.func (.func g) #[] #[]) := rfl
theorem evalRF_func (rs : List Nat) (ff : Tr Value) (g : FuncId) : evalRF rs ff (.func g) = some (.func (.func g) #[] #[]) := rfl

section
variable {Ty : Types} {F : FK} {FT : FunT} {n : Nat}

theorem mvOf_some {op : Op} {x : Operand} (h : mvOf op = some x) : op = .move x ∨ op = .assign x := by
  cases op <;> simp [mvOf] at h <;> subst h <;> simp

theorem aOp_mv {op : Op} {x : Operand} (h : mvOf op = some x) (ev : Operand → Option Value) (g : H) : aOp Ty FT ev op g = some ((ev x).getD undefA, g) := by
  rcases mvOf_some h with rfl | rfl <;> rfl

theorem mv_mem {op : Op} {x : Operand} (h : mvOf op = some x) : x ∈ op.operands.toList := by
  rcases mvOf_some h with rfl | rfl <;> simp [Op.operands]

/-- A value or none, as the machine puts it. -/
theorem put_mv {kf ff : Tr Value} (hs : SubFr kf ff) {dst : Option Tmp} {x : Operand} {xs : List Operand} {ev' : Operand → Option Value} (hx : x ∈ xs) (he : EvLe xs (evalF kf) ev') : SubFr (putO n kf dst (evalF kf x)) (putFr n ff dst ((ev' x).getD undefA)) := by
  refine hs.put fun u hu => ?_
  obtain ⟨a, b⟩ := he x hx u hu
  rw [a]
  exact ⟨rfl, b⟩

theorem evOpsK_sound (hF : LeF F FT) (hQ : QT FT) {ops : List Oper} : ∀ (l : List Oper) (kf ff : Tr Value) (h : H) (κ : Tr Value → H → Rz) (r : Value × H), FrOk n ff → SubFr kf ff → Wf h → evOpsK Ty F n ops l kf h κ = some r →
    ∃ kf' ff' h', evOpsF Ty FT n ops l ff h = some (ff', h') ∧ FrOk n ff' ∧ SubFr kf' ff' ∧ Wf h' ∧ κ kf' h' = some r
  | [], kf, ff, h, κ, r, ok, hs, hW, he => ⟨kf, ff, h, rfl, ok, hs, hW, he⟩
  | o :: l, kf, ff, h, κ, r, ok, hs, hW, he => by
    have hev := hs.ev ok o.op.operands.toList
    have step : ∀ (v : Value) (h1 : H) (kf1 : Tr Value), wantFr ops o ff = some true → aOp Ty FT (evalF ff) o.op h = some (v, h1) → SubFr kf1 (putFr n ff o.dst v) → evOpsK Ty F n ops l kf1 h1 κ = some r →
        ∃ kf' ff' h', evOpsF Ty FT n ops (o :: l) ff h = some (ff', h') ∧ FrOk n ff' ∧ SubFr kf' ff' ∧ Wf h' ∧ κ kf' h' = some r := by
      intro v h1 kf1 hw ha hs1 hk
      have hW1 : Wf h1 := (aOp_Q hQ hW ha).dom hW
      obtain ⟨kf', ff', h', a, b, c, d, e⟩ := evOpsK_sound hF hQ l kf1 _ h1 κ r (putFr_ok ok _ _) hs1 hW1 hk
      exact ⟨kf', ff', h', by simp only [evOpsF, hw, ha]; exact a, b, c, d, e⟩
    have skip : ∀ (kf1 : Tr Value), wantFr ops o ff = some false → SubFr kf1 (putFr n ff o.dst skipA) → evOpsK Ty F n ops l kf1 h κ = some r →
        ∃ kf' ff' h', evOpsF Ty FT n ops (o :: l) ff h = some (ff', h') ∧ FrOk n ff' ∧ SubFr kf' ff' ∧ Wf h' ∧ κ kf' h' = some r := by
      intro kf1 hw hs1 hk
      obtain ⟨kf', ff', h', a, b, c, d, e⟩ := evOpsK_sound hF hQ l kf1 _ h κ r (putFr_ok ok _ _) hs1 hW hk
      exact ⟨kf', ff', h', by simp only [evOpsF, hw]; exact a, b, c, d, e⟩
    have one : ∀ {v : Value}, isUndef v = false → ∀ u, some v = some u → u = v ∧ isUndef v = false := fun hu u e => by cases e; exact ⟨rfl, hu⟩
    have nul : ∀ {v : Value}, ∀ u, (none : Option Value) = some u → u = v ∧ isUndef v = false := fun u e => by cases e
    simp only [evOpsK] at he
    cases hg : o.guard with
    | none =>
      rw [hg] at he
      simp only at he
      cases hm : mvOf o.op with
      | some x =>
        rw [hm] at he
        exact step _ h _ (want_none hg) (aOp_mv hm _ _) (put_mv hs (mv_mem hm) hev) he
      | none =>
        rw [hm] at he
        simp only at he
        cases hE : isEff o.op with
        | true =>
          rw [hE] at he
          obtain ⟨h1, ha, hk⟩ := opE_sound (FT := FT) hev he
          exact step _ h1 _ (want_none hg) ha (hs.put nul) hk
        | false =>
          rw [hE] at he
          obtain ⟨v, h1, ha, hu, hk⟩ := opV_sound hF (evalF_func ff) hW hev he
          exact step v h1 _ (want_none hg) ha (hs.put (one hu)) hk
    | some p =>
      obtain ⟨j, want⟩ := p
      rw [hg] at he
      simp only at he
      obtain ⟨g, hgv, he2⟩ := oV_some he
      clear he
      cases hE : isEff o.op with
      | true =>
        rw [hE] at he2
        rcases guardE_some he2 with ⟨b, hb, hbw, hk⟩ | ⟨hw, hk⟩
        · obtain ⟨h1, ha, hk⟩ := opE_sound (FT := FT) hev hk
          exact step _ h1 _ (by rw [(want_of (n := n) hs hg hgv).1 b hb, hbw]) ha (hs.put nul) hk
        · exact skip _ (want_skip hs hg hgv hw) (hs.put nul) hk
      | false =>
        rw [hE] at he2
        rcases guardV_some he2 with ⟨b, hb, hbw, hk⟩ | ⟨hw, hk⟩
        · obtain ⟨v, h1, ha, hu, hk⟩ := opV_sound hF (evalF_func ff) hW hev hk
          exact step v h1 _ (by rw [(want_of (n := n) hs hg hgv).1 b hb, hbw]) ha (hs.put (one hu)) hk
        · exact skip _ (want_skip hs hg hgv hw) (hs.put (one rfl)) hk

/-! Drawn regions -/

structure RelD (p : Pl) (d : Dn) (r : Rec) : Prop where
  mask : r.mask = p.mask
  reads : r.reads = p.reads
  dst : r.dst = p.dst
  lo : r.lo = d.2.1.n
  hi : r.hi = d.2.2.n
  le : d.2.1.n ≤ d.2.2.n
  same : p.kind = 0 ∨ p.kind = 2 → d.2.1.n = d.2.2.n
  cases : (r.dom = some [] ∧ r.wr = false) ∨
    (p.kind = 2 ∧ r.wr = false ∧ ∃ ids, r.dom = some ids ∧ ∀ id ∈ ids, id ∈ idsV d.1 ∧ id < d.2.1.n) ∨
    (p.kind = 3 ∧ r.kept = [] ∧ ∃ ids, r.dom = some ids ∧ ∀ id ∈ ids, id ∈ idsV d.1) ∨
    (p.kind = 4 ∧ r.dom = none ∧ r.wr = (!Nat.beq d.2.2.lw d.2.1.n) ∧ r.kept = keptOf d.2.1 d.2.2 (List.range d.2.1.n))

theorem maskL_eq {P0 : List Pl} {recs : List Rec} (hl : P0.length = recs.length) (hm : ∀ (i : Nat) p r, P0[i]? = some p → recs[i]? = some r → r.mask = p.mask) : ∀ es : List Edge, maskL recs es = maskP P0 es
  | [] => rfl
  | e :: es => by
    simp only [maskL, maskP, maskL_eq hl hm es]
    cases maskP P0 es with
    | none => rfl
    | some m =>
      simp only
      cases Region.binds .any e with
      | false => rfl
      | true =>
        simp only [cond_true]
        rcases Nat.lt_or_ge e.on recs.length with h | h
        · have h1 : recs[e.on]? = some recs[e.on] := List.getElem?_eq_getElem h
          have h2 : P0[e.on]? = some P0[e.on] := List.getElem?_eq_getElem (by omega)
          have h3 := hm e.on _ _ h2 h1
          simp only [h1, h2, h3]
        · rw [List.getElem?_eq_none h, List.getElem?_eq_none (by omega)]

/-- What a plan's pairs say. -/
def PairOk (q : Pl) (P0 : List Pl) (i0 : Nat) : Prop := ∀ (i : Nat) (r : Pl), P0[i]? = some r → q.mask.testBit (i0 + i) = false → slotP r q.reads q.dst = true ∧ ∃ a, pairP r.kind q.kind = some a ∧
  (a.ql = true → i0 + i ∈ q.ql) ∧ (a.ct = true → i0 + i ∈ q.ct) ∧ (a.rg = true → i0 + i ∈ q.rg) ∧ (a.un = true → i0 + i ∈ q.un) ∧ (a.dj = true → i0 + i ∈ q.dj)

theorem pairsP_spec {p : Pl} : ∀ (P0 : List Pl) (i0 : Nat) (q : Pl), pairsP p P0 i0 = some q → (q.mask = p.mask ∧ q.kind = p.kind ∧ q.reads = p.reads ∧ q.dst = p.dst) ∧ PairOk q P0 i0
  | [], i0, q, h => by
    simp only [pairsP, Option.some.injEq] at h
    subst h
    exact ⟨⟨rfl, rfl, rfl, rfl⟩, fun i r hr => by simp at hr⟩
  | r0 :: P0, i0, q, h => by
    simp only [pairsP] at h
    split at h
    · cases h
    · rename_i q1 hq1
      obtain ⟨⟨e1, e2, e3, e4⟩, ih⟩ := pairsP_spec P0 (i0 + 1) q1 hq1
      split at h
      · rename_i hb
        cases h
        refine ⟨⟨e1, e2, e3, e4⟩, fun i r hr hm => ?_⟩
        cases i with
        | zero => rw [Nat.add_zero, e1, hb] at hm; cases hm
        | succ i => have := ih i r (by simpa using hr) (by rwa [show i0 + 1 + i = i0 + (i + 1) by omega]); rwa [show i0 + 1 + i = i0 + (i + 1) by omega] at this
      · rename_i hb
        split at h
        · rename_i a hsl hpa
          cases h
          refine ⟨⟨e1, e2, e3, e4⟩, fun i r hr hm => ?_⟩
          cases i with
          | zero =>
            simp only [List.getElem?_cons_zero, Option.some.injEq] at hr
            subst hr
            refine ⟨by show slotP r0 q1.reads q1.dst = true; rw [e3, e4]; exact hsl, a, by show pairP r0.kind q1.kind = _; rw [e2]; exact hpa, ?_, ?_, ?_, ?_, ?_⟩
            · intro h1; show i0 + 0 ∈ cond a.ql _ _; rw [h1]; exact List.mem_cons_self
            · intro h1; show i0 + 0 ∈ cond a.ct _ _; rw [h1]; exact List.mem_cons_self
            · intro h1; show i0 + 0 ∈ cond a.rg _ _; rw [h1]; exact List.mem_cons_self
            · intro h1; show i0 + 0 ∈ cond a.un _ _; rw [h1]; exact List.mem_cons_self
            · intro h1; show i0 + 0 ∈ cond a.dj _ _; rw [h1]; exact List.mem_cons_self
          | succ i =>
            have := ih i r (by simpa using hr) (by rw [show i0 + 1 + i = i0 + (i + 1) by omega]; exact hm)
            rw [show i0 + 1 + i = i0 + (i + 1) by omega] at this
            obtain ⟨s1, b, s2, k1, k2, k3, k4, k5⟩ := this
            have mem : ∀ (c : Bool) (x y : Nat) (l : List Nat), x ∈ l → x ∈ cond c (y :: l) l := fun c x y l hx => by cases c <;> simp [hx]
            exact ⟨s1, b, s2, fun h1 => mem _ _ _ _ (k1 h1), fun h1 => mem _ _ _ _ (k2 h1), fun h1 => mem _ _ _ _ (k3 h1), fun h1 => mem _ _ _ _ (k4 h1), fun h1 => mem _ _ _ _ (k5 h1)⟩
        · cases h

theorem slot_eq {p : Pl} {r : Rec} (h1 : r.reads = p.reads) (h2 : r.dst = p.dst) (reads : List Nat) (dst : Option Nat) : slotOk r reads dst = slotP p reads dst := by
  unfold slotOk slotP
  rw [h1, h2]
  rfl

theorem mem_heapsK {rs : List Dn} {i : Nat} {d : Dn} (hd : rs[i]? = some d) : ∀ {is : List Nat}, i ∈ is → d.2 ∈ heapsK rs is
  | [], h => by cases h
  | x :: is, h => by
    simp only [heapsK]
    rcases List.mem_cons.1 h with e | h
    · subst e; rw [hd]; exact List.mem_cons_self
    · have ih := mem_heapsK hd h
      split
      · exact List.mem_cons_of_mem _ ih
      · exact ih

theorem mem_valsK {rs : List Dn} {i : Nat} {d : Dn} (hd : rs[i]? = some d) : ∀ {is : List Nat}, i ∈ is → ∀ v ∈ d.1, v ∈ valsK rs is
  | [], h, _, _ => by cases h
  | x :: is, h, v, hv => by
    simp only [valsK]
    rcases List.mem_cons.1 h with e | h
    · subst e; rw [hd]; exact List.mem_append_left _ hv
    · have ih := mem_valsK hd h v hv
      split
      · exact List.mem_append_right _ ih
      · exact ih

theorem idsV_mono {a b : List Value} (h : ∀ v ∈ a, v ∈ b) : ∀ id ∈ idsV a, id ∈ idsV b := by
  have key : ∀ (l : List Value) (v : Value), v ∈ l → ∀ id ∈ idsV [v], id ∈ idsV l := by
    intro l
    induction l with
    | nil => intro v hv; cases hv
    | cons x l ih =>
      intro v hv id hid
      rw [idsV_cons]
      rcases List.mem_cons.1 hv with e | hv
      · subst e; exact List.mem_append_left _ hid
      · exact List.mem_append_right _ (ih v hv id hid)
  intro id hid
  induction a with
  | nil => cases hid
  | cons x a ih =>
    rw [idsV_cons] at hid
    rcases List.mem_append.1 hid with h1 | h1
    · exact key b x (h x List.mem_cons_self) id h1
    · exact ih (fun v hv => h v (List.mem_cons_of_mem _ hv)) h1

theorem unK_spec {h h1 : H} {ds : List Value} (hu : unK h h1 ds = true) : (Nat.beq h1.lw h.n = true) ∨ ∀ id ∈ idsV ds, eqO (h1.get id) (h.get id) = true := by
  unfold unK at hu
  cases he : (idsV ds).isEmpty with
  | true =>
    right
    intro id hid
    rw [List.isEmpty_iff.1 he] at hid
    cases hid
  | false =>
    rw [he] at hu
    simp only [cond_false, Bool.or_eq_true, List.all_eq_true] at hu
    exact hu

/-- What is asked of one that reads or writes. -/
structure Chk (p : Pl) (rs : List Dn) (ds : List Value) (h : H) : Prop where
  pres : Pres h (idsV ds)
  rg : ∀ i ∈ p.rg, ∀ d, rs[i]? = some d → ∀ id ∈ idsV ds, id < d.2.1.n ∨ d.2.2.n ≤ id
  un : ∀ i ∈ p.un, ∀ d, rs[i]? = some d → unK d.2.1 d.2.2 ds = true
  dj : ∀ i ∈ p.dj, ∀ d, rs[i]? = some d → ∀ id ∈ idsV d.1, id ∉ idsV ds

theorem Chk.nil (p : Pl) (rs : List Dn) (h : H) : Chk p rs [] h :=
  ⟨fun _ hk => (by cases hk), fun _ _ _ _ _ hk => (by cases hk), fun _ _ _ _ => rfl, fun _ _ _ _ _ _ hk => (by cases hk)⟩

theorem chkK_some {p : Pl} {rs : List Dn} {ds : List Value} {h : H} {x : Rz} {r : Value × H} (he : chkK p rs ds h x = some r) : Chk p rs ds h ∧ x = some r := by
  have ps : ∀ {y : Rz}, psK h ds y = some r → Pres h (idsV ds) ∧ y = some r := by
    intro y hy
    rcases condQ hy with ⟨hb, hy⟩ | ⟨_, hy⟩
    · refine ⟨fun id hid => ?_, hy⟩
      have := List.all_eq_true.1 hb id hid
      rw [Bool.and_eq_true] at this
      exact ⟨this.1, blt_true this.2⟩
    · cases hy
  unfold chkK at he
  split at he
  · exact ⟨Chk.nil .., he⟩
  · split at he
    · rename_i h1 h2 h3
      obtain ⟨a, b⟩ := ps he
      exact ⟨⟨a, fun i hi => (by rw [h1] at hi; cases hi), fun i hi => (by rw [h2] at hi; cases hi), fun i hi => (by rw [h3] at hi; cases hi)⟩, b⟩
    · obtain ⟨a, b⟩ := ps he
      rcases condQ b with ⟨hb, hc⟩ | ⟨_, hc⟩
      · rw [Bool.and_eq_true, Bool.and_eq_true] at hb
        obtain ⟨b1, b2, b3⟩ := hb
        refine ⟨⟨a, fun i hi d hd id hid => ?_, fun i hi d hd => ?_, fun i hi d hd id hid hid2 => ?_⟩, hc⟩
        · have := List.all_eq_true.1 b1 (d.2.1.n, d.2.2.n) (List.mem_map.2 ⟨d.2, mem_heapsK hd hi, rfl⟩)
          have := List.all_eq_true.1 this id hid
          rw [Bool.or_eq_true] at this
          rcases this with this | this
          · exact .inl (blt_true this)
          · exact .inr (Nat.le_of_ble_eq_true this)
        · exact List.all_eq_true.1 b2 d.2 (mem_heapsK hd hi)
        · have h1 := idsV_mono (mem_valsK hd hi) id hid
          have := List.all_eq_true.1 b3 id h1
          simp at this
          exact this hid2
      · cases hc

theorem heapOk_nil1 {w2 : Bool} {k1 k2 : List Nat} {d2 : Option (List Nat)} : heapOk false k1 (some []) w2 k2 d2 = true := by
  simp [heapOk, safeOk]
theorem heapOk_nil2 {w1 : Bool} {k1 k2 : List Nat} {d1 : Option (List Nat)} : heapOk w1 k1 d1 false k2 (some []) = true := by
  simp [heapOk, safeOk]
theorem heapOk_rr {k1 k2 : List Nat} {d1 d2 : Option (List Nat)} : heapOk false k1 d1 false k2 d2 = true := by
  simp [heapOk, safeOk]

theorem range_ok {ids : List Nat} {lo hi : Nat} (h : ∀ id ∈ ids, id < lo ∨ hi ≤ id) : (ids.all fun id => Nat.blt id lo || Nat.ble hi id) = true := by
  rw [List.all_eq_true]
  intro id hid
  rcases h id hid with h | h
  · rw [Bool.or_eq_true]; exact .inl (blt_iff.2 h)
  · rw [Bool.or_eq_true]; exact .inr (Nat.ble_eq_true_of_le h)

theorem disj_ok {a b : List Nat} (h : ∀ id ∈ a, id ∉ b) : disj a b = true := by
  unfold disj
  rw [List.all_eq_true]
  intro id hid
  have := h id hid
  simpa using this

/-- One that was done ahead and one that reads or writes: apart. -/
theorem apart_prim {p q : Pl} {d : Dn} {r : Rec} {rs : List Dn} {ds : List Value} {h : H} {i : Nat} {ids : List Nat} {wr : Bool} (hr : RelD p d r) (hd : rs[i]? = some d) (ck : Chk q rs ds h)
    (hsl : slotP p q.reads q.dst = true) {a : Pr} (hp : pairP p.kind q.kind = some a) (hrg : a.rg = true → i ∈ q.rg) (hun : a.un = true → i ∈ q.un) (hdj : a.dj = true → i ∈ q.dj)
    (hids : ∀ id ∈ ids, id ∈ idsV ds) (hk : (q.kind = 0 ∨ q.kind = 1) ∧ ids = [] ∧ wr = false ∨ q.kind = 2 ∧ wr = false ∨ q.kind = 3) (hWf : Wf d.2.2) :
    apartOk r q.reads q.dst (some ids) wr [] = true := by
  unfold apartOk
  rw [slot_eq hr.reads hr.dst, hsl, Bool.true_and]
  rw [Bool.and_eq_true]
  constructor
  · rcases hk with ⟨_, rfl, rfl⟩ | hk
    · exact heapOk_nil2
    rcases hr.cases with ⟨h1, h2⟩ | ⟨h0, h1, ids1, h2, h3⟩ | ⟨h0, h1, ids1, h2, h3⟩ | ⟨h0, h1, h2, h3⟩
    · rw [h1, h2]; exact heapOk_nil1
    · rw [h1, h2]
      rcases hk with ⟨_, rfl⟩ | hk
      · exact heapOk_rr
      · have ha : a.dj = true := by rw [h0, hk] at hp; cases hp; rfl
        have hc : disj ids1 ids = true := disj_ok fun id hid hid2 => ck.dj i (hdj ha) d hd id (h3 id hid).1 (hids id hid2)
        simp [heapOk, hc]
    · rw [h2]
      have ha : a.dj = true := by
        rcases hk with ⟨hk, _⟩ | hk <;> (rw [h0, hk] at hp; cases hp; rfl)
      have hc : disj ids1 ids = true := disj_ok fun id hid hid2 => ck.dj i (hdj ha) d hd id (h3 id hid) (hids id hid2)
      simp [heapOk, hc]
    · rcases hk with ⟨hk, rfl⟩ | hk
      · have ha : a.un = true ∧ a.rg = true := by rw [h0, hk] at hp; cases hp; exact ⟨rfl, rfl⟩
        have hu := unK_spec (ck.un i (hun ha.1) d hd)
        have hs : safeOk r.wr r.kept (some ids) = true := by
          unfold safeOk
          rw [Bool.or_eq_true]
          rcases hu with hu | hu
          · left; rw [h2, hu]; rfl
          · right
            show (ids.all fun id => r.kept.contains id) = true
            rw [List.all_eq_true]
            intro id hid
            have hm := hids id hid
            have he := hu id hm
            have hlt : id < d.2.1.n := by
              rcases ck.rg i (hrg ha.2) d hd id hm with h | h
              · exact h
              · exfalso
                unfold eqO at he
                cases hg : d.2.2.get id with
                | none => rw [hg] at he; simp at he
                | some o => have := hWf id o hg; omega
            rw [h3]
            simp only [List.contains_iff_mem, keptOf, List.mem_filter, List.mem_range, Bool.and_eq_true]
            exact ⟨hlt, blt_iff.2 hlt, he⟩
        have hs2 : safeOk false [] r.dom = true := rfl
        unfold heapOk
        rw [hs, hs2]; rfl
      · rw [h0, hk] at hp; cases hp
  · show (ids.all fun id => Nat.blt id r.lo || Nat.ble r.hi id) = true
    rcases hk with ⟨_, rfl, _⟩ | hk
    · rfl
    rw [hr.lo, hr.hi]
    have key : a.rg = true ∨ d.2.1.n = d.2.2.n := by
      have hq : q.kind = 2 ∨ q.kind = 3 := by rcases hk with ⟨hk, _⟩ | hk; exact .inl hk; exact .inr hk
      by_cases hs : p.kind = 0 ∨ p.kind = 2
      · exact .inr (hr.same hs)
      · left
        rcases hq with hq | hq <;> rw [hq] at hp <;> unfold pairP at hp <;> split at hp <;> first
          | (cases hp; rfl)
          | (exfalso; apply hs; simp_all; done)
          | (cases hp; done)
          | (simp_all; done)
    rcases key with key | key
    · exact range_ok fun id hid => ck.rg i (hrg key) d hd id (hids id hid)
    · exact range_ok fun id _ => by omega
end
end
end Go.Ab
