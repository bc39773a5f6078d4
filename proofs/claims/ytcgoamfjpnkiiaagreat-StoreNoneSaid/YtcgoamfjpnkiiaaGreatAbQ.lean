/- Regions that draw their order, over an abstract heap: whole. Conditions: none. -/
import Derived.Test.YtcgoamfjpnkiiaaGreatAbP
set_option linter.all false
namespace Go.Ab
noncomputable section
open Go.RowKit

/-- A drawn region's meaning. -/
def drawA (Ty : Types) (F : FunT) : DrawT := fun _ ops s =>
  match drawEv Ty F ops ops.toList [] s.1 s.2 with
  | some (_, ts, h) => some (ts, h)
  | none => none

section
variable {P : Program} {Ty : Types} {F : FunT} {ops : Array Oper} {base hE : H} {ts0 tsE : List Value} {rs : List Rec}

theorem can_start (hW : Wf base) : Can Ty F ops base ts0 [] ts0 base where
  good := fun i r h => by simp at h
  heap := fun id => rfl
  slots := fun t => rfl
  n := Nat.le_refl _
  hi := fun i r h => by simp at h
  dom := hW
  len := rfl
  dstLt := fun i r h => by simp at h
  lw := Nat.le_refl _
  keep := fun _ _ _ => rfl
  gone := fun _ _ h => h
  ro := fun _ _ h _ => h

theorem Can.q (hW : Wf base) (c : Can Ty F ops base ts0 rs tsE hE) : Q base hE :=
  ⟨c.n, c.lw, c.keep, fun _ => c.dom, c.gone, c.ro⟩

/-- What the masks say, when all edges' ends are done. -/
theorem mask_done {sel : Nat → Bool} (hc : ClosedS rs sel) {i : Nat} : ∀ (es : List Edge) (m : Nat), maskL (rs.take i) es = some m → (∀ e ∈ es, Region.binds .any e = true → sel e.on = true) → ∀ k, m.testBit k = true → sel k = true
  | [], m, h, _, k, hk => by simp only [maskL, Option.some.injEq] at h; subst h; simp at hk
  | e :: es, m, h, hs, k, hk => by
    simp only [maskL] at h
    cases h1 : maskL (rs.take i) es with
    | none => rw [h1] at h; cases h
    | some m1 =>
      rw [h1] at h
      have ih := mask_done hc es m1 h1 (fun e he => hs e (by simp [he]))
      rcases condQ h with ⟨hb, h⟩ | ⟨hb, h⟩
      · cases hr : (rs.take i)[e.on]? with
        | none => rw [hr] at h; cases h
        | some r =>
          rw [hr] at h
          cases h
          have hon := hs e (by simp) hb
          have hr' : rs[e.on]? = some r := by
            rw [List.getElem?_take] at hr
            split at hr
            · exact hr
            · cases hr
          simp only [Nat.testBit_or, Bool.or_eq_true] at hk
          rcases hk with (hk | hk) | hk
          · exact ih k hk
          · rw [Nat.testBit_two_pow] at hk
            have : e.on = k := by simpa using hk
            rw [← this]; exact hon
          · exact hc e.on r hon hr' k hk
      · cases h; exact ih k hk

/-- An edge that binds comes from ahead. -/
theorem mask_on {i : Nat} : ∀ (es : List Edge) (m : Nat), maskL (rs.take i) es = some m → ∀ e ∈ es, Region.binds .any e = true → e.on < i
  | [], m, h, e, he, _ => by cases he
  | x :: es, m, h, e, he, hb => by
    simp only [maskL] at h
    cases h1 : maskL (rs.take i) es with
    | none => rw [h1] at h; cases h
    | some m1 =>
      rw [h1] at h
      rcases List.mem_cons.1 he with rfl | he
      · rw [hb] at h
        simp only [cond_true] at h
        cases hr : (rs.take i)[e.on]? with
        | none => rw [hr] at h; cases h
        | some r =>
          rw [List.getElem?_take] at hr
          split at hr
          · assumption
          · cases hr
      · exact mask_on es m1 h1 e he hb

def todo (n : Nat) (sel : Nat → Bool) : Nat := ((List.range n).filter fun i => !sel i).length

theorem todo_put {n i : Nat} {sel : Nat → Bool} (hi : i < n) (hs : sel i = false) : todo n (fun j => j == i || sel j) + 1 = todo n sel := by
  unfold todo
  have hsplit : List.range n = List.range i ++ i :: List.range' (i + 1) (n - i - 1) := by
    rw [List.range_eq_range', List.range_eq_range']
    obtain ⟨m, rfl⟩ : ∃ m, n = i + (m + 1) := ⟨n - i - 1, by omega⟩
    rw [← List.range'_append_1, List.range'_succ]
    simp
  rw [hsplit]
  simp only [List.filter_append, List.filter_cons, List.length_append]
  have h1 : (List.range i).filter (fun j => !(j == i || sel j)) = (List.range i).filter (fun j => !sel j) := by
    apply List.filter_congr
    intro j hj
    have : j < i := by simpa using hj
    have : (j == i) = false := by simp; omega
    rw [this]; simp
  have h2 : (List.range' (i + 1) (n - i - 1)).filter (fun j => !(j == i || sel j)) = (List.range' (i + 1) (n - i - 1)).filter (fun j => !sel j) := by
    apply List.filter_congr
    intro j hj
    have : i + 1 ≤ j := by rw [List.mem_range'_1] at hj; exact hj.1
    have : (j == i) = false := by simp; omega
    rw [this]; simp
  rw [h1, h2]
  simp [hs]
  omega

theorem drawn_wp (hT : TyOk P Ty) (hF : SoundT P F) (hlen : rs.length = ops.size) (hWb : Wf base) (c : Can Ty F ops base ts0 rs tsE hE) {R0 : Ren} {w0 : World} (hfr : ∀ k, base.n ≤ k → k < hE.n → R0 k = none) {Q' : Exit → Act → World → Prop}
    (hq : ∀ a' w' R', Step base R0 w0 hE R' w' → TR R' tsE a'.tmps → a'.defers = [] → Q' .normal a' w') :
    ∀ (fuel : Nat) (sel : Nat → Bool) (listed : Array Bool) (a : Act) (w : World) (R : Ren), listed.size = ops.size → (∀ i, i < ops.size → listed.getD i true = sel i ∧ listed.getD i false = sel i) → (∀ i, ¬ i < ops.size → sel i = false) → todo ops.size sel ≤ fuel →
      InvD base ts0 rs R0 w0 sel a w R → wpAny P .any ops Q' fuel listed a w := by
  -- when all are done
  have fin : ∀ (sel : Nat → Bool) (a : Act) (w : World) (R : Ren), (∀ i, i < ops.size → sel i = true) → InvD base ts0 rs R0 w0 sel a w R → Q' .normal a w := by
    intro sel a w R hall v
    have hg : ∀ id, gS base rs sel id = hE.get id := by
      intro id
      rw [c.heap]
      refine ovr_congr rs 0 _ _ rfl fun j q hj _ => ?_
      have hjl := (List.getElem?_eq_some_iff.1 hj).1
      rw [Nat.zero_add, hall j (by omega), blt_iff.2 hjl]
    have ht : ∀ t, tS ts0 rs sel t = tsE[t]? := by
      intro t
      rw [c.slots]
      refine ovr_congr rs 0 _ _ rfl fun j q hj _ => ?_
      have hjl := (List.getElem?_eq_some_iff.1 hj).1
      rw [Nat.zero_add, hall j (by omega), blt_iff.2 hjl]
    refine hq a w R ⟨⟨c.dom, fun id o ho => v.rel.obj id o (by rw [hg]; exact ho), fun id id' o o' l l' h1 h2 => v.rel.inj id id' o o' l l' (by rw [hg]; exact h1) (by rw [hg]; exact h2)⟩, v.le, fun id h0 h1 => ?_, c.n, v.os, v.tape, v.output, v.size, v.block, fun b ⟨id, o, l, h1, h2⟩ => v.own b ⟨id, o, l, by rw [hg]; exact h1, h2⟩⟩ ⟨?_, fun t z hz => v.slots t z (by rw [ht]; exact hz)⟩ v.defers
    · obtain ⟨j, q, h2, h3, h4, h5⟩ := v.fresh id h0 h1
      have := (c.good j q h3).lo
      have := c.hi j q h3
      omega
    · rw [c.len]; exact v.tsize.symm
  intro fuel
  -- none is ready: all are done
  have stuckd : ∀ (sel : Nat → Bool) (listed : Array Bool), (∀ i, i < ops.size → listed.getD i true = sel i ∧ listed.getD i false = sel i) → Region.ready .any ops listed = [] → ∀ i, i < ops.size → sel i = true := by
    intro sel listed hl hnil i
    induction i using Nat.strongRecOn with
    | _ i ih =>
      intro hi
      cases hs : sel i with
      | true => rfl
      | false =>
        exfalso
        obtain ⟨r, hr⟩ : ∃ r, rs[i]? = some r := ⟨rs[i]'(by omega), List.getElem?_eq_getElem (by omega)⟩
        have g := c.good i r hr
        have : i ∈ Region.ready .any ops listed := by
          simp only [Region.ready, List.mem_filter, List.mem_range, hi, true_and, Bool.and_eq_true, Bool.not_eq_true']
          refine ⟨by rw [(hl i hi).1]; exact hs, ?_⟩
          rw [g.op]
          simp only [Option.map_some, Option.getD_some, Array.all_eq_true_iff_forall_mem]
          intro e he
          cases hb : Region.binds .any e with
          | false => simp
          | true =>
            have hon := mask_on r.o.after.toList r.mask g.mask e (by simpa using he) hb
            simp [(hl e.on (by omega)).2, ih e.on hon (by omega)]
        rw [hnil] at this
        cases this
  induction fuel with
  | zero =>
    intro sel listed a w R hsz hl hout hf v
    have hall : ∀ i, i < ops.size → sel i = true := by
      intro i hi
      cases hs : sel i with
      | true => rfl
      | false => have := todo_put (n := ops.size) hi hs; omega
    refine ⟨?_, fin sel a w R hall v⟩
    apply List.filter_eq_nil_iff.2
    intro i hi
    have hi' : i < ops.size := by simpa using hi
    simp [(hl i hi').1, hall i hi']
  | succ fuel ih =>
    intro sel listed a w R hsz hl hout hf v
    refine ⟨fun hnil => fin sel a w R (stuckd sel listed hl hnil) v, fun i hi => ?_⟩
    simp only [Region.ready, List.mem_filter, List.mem_range, Bool.and_eq_true, Bool.not_eq_true'] at hi
    obtain ⟨hi1, hi2, hi3⟩ := hi
    have hsel : sel i = false := by rw [← (hl i hi1).1]; exact hi2
    obtain ⟨r, hr⟩ : ∃ r, rs[i]? = some r := ⟨rs[i]'(by omega), List.getElem?_eq_getElem (by omega)⟩
    have g := c.good i r hr
    rw [g.op] at hi3
    simp only [Option.map_some, Option.getD_some, Array.all_eq_true_iff_forall_mem] at hi3
    have hm : ∀ k, r.mask.testBit k = true → sel k = true := by
      refine mask_done v.closed r.o.after.toList r.mask g.mask fun e he hb => ?_
      have h1 := hi3 e (by simpa using he)
      rw [hb] at h1
      have hon := mask_on r.o.after.toList r.mask g.mask e he hb
      have h2 := (hl e.on (by omega)).2
      rw [← h2]
      simpa using h1
    obtain ⟨e1, e2⟩ := v.ev c hr hsel hm
    -- behind it
    have next : ∀ (u : Value) (w' : World) (R' : Ren), InvD base ts0 rs R0 w0 (fun j => j == i || sel j) (a.put r.dst u) w' R' → wpAny P .any ops Q' fuel (listed.setIfInBounds i true) (a.put r.dst u) w' := by
      intro u w' R' hv
      refine ih (fun j => j == i || sel j) _ _ _ R' (by simpa using hsz) (fun j hj => ?_) (fun j hj => ?_) (by have := todo_put (n := ops.size) hi1 hsel; omega) hv
      · have hjl : j < listed.size := by omega
        have hb := hl j hj
        simp only [Array.getD_eq_getD_getElem?, Array.getElem?_setIfInBounds] at hb ⊢
        by_cases e : i = j
        · subst e; simp [hjl]
        · have e' : (j == i) = false := by simp; omega
          rw [if_neg e, e']
          simpa using hb
      · have e' : (j == i) = false := by simp; omega
        simp [e', hout j hj]
    have hwant := wantR (ops := ops) (tm := a.tmps) (R := R) (b := r.want) (fun t u ht hu => e1 t u (by rw [g.reads]; exact ht) hu) g.wants
    show wpOp P ops Q' i _ a w
    unfold wpOp
    rw [g.op]
    simp only [hwant]
    have hsub : ∀ id o, r.hin.get id = some o → gS base rs sel id = some o := by
      intro id o ho
      rw [g.hin] at ho
      split at ho
      · rename_i hs; rw [sees_same c v.closed hr hsel hm hs]; exact ho
      · cases ho
    have hrin : Rel r.hin R w := ⟨g.hinWf, fun id o ho => v.rel.obj id o (hsub id o ho), fun id id' o o' l l' h1 h2 => v.rel.inj id id' o o' l l' (hsub id o h1) (hsub id' o' h2)⟩
    cases hw : r.want with
    | false =>
      simp only [Bool.false_eq_true, if_false]
      obtain ⟨s1, s2, s3⟩ := g.skip hw
      rw [← g.dst]
      exact next undef w R (v.put c hr hsel hm (R' := R) (w' := w) (by rw [s2]; exact Step.refl hrin) (by rw [s2]; exact Q.refl _) (u := undef) (.inr (by rw [s1]; exact .skip)) (fun id h1 h2 => (h2 h1).elim))
    | true =>
      simp only [if_true]
      left
      have hQ := aOp_Q hF.q g.hinWf (g.run hw)
      refine aOp_wp hT hF (g.run hw) hrin e2 (fun id h1 h2 => ?_) fun u w' R' hst hu => ?_
      · rw [g.hinn] at h1
        rw [g.houtn] at h2
        cases hR : R id with
        | none => rfl
        | some x =>
          exfalso
          have hb := g.lo
          have he := c.hi i r hr
          obtain ⟨j, q, k1, k2, k3, k4⟩ := v.fresh id (hfr id (by omega) (by omega)) (by rw [hR]; simp)
          have gq := c.good j q k2
          have hjl := (List.getElem?_eq_some_iff.1 k2).1
          rcases Nat.lt_trichotomy j i with h | h | h
          · have := g.order j q h k2; omega
          · subst h; rw [hsel] at k1; cases k1
          · have := gq.order i r h hr; omega
      · rw [← g.dst]
        refine next u w' R' (v.put c hr hsel hm hst hQ hu fun id h1 h2 => ?_)
        have := hst.fresh id h1 h2
        rw [g.hinn, g.houtn] at this
        exact this
end

theorem drawA_sound {P : Program} {Ty : Types} {F : FunT} (hT : TyOk P Ty) (hF : SoundT P F) (hm : P.follows .mixedOrders = true) : SoundD P (drawA Ty F) := by
  intro id ops s s' he
  unfold drawA at he
  split at he
  · rename_i rs ts h hd
    cases he
    refine ⟨fun hW => ?_, fun R w a Q' hr ht hdf hfr hq => ?_⟩
    · exact (drawEv_can hF.q ops.toList [] s.1 s.2 rs ts h (fun i => by simp) (can_start hW) hd).1.q hW
    · obtain ⟨c, hlen⟩ := drawEv_can hF.q ops.toList [] s.1 s.2 rs ts h (fun i => by simp) (can_start hr.wf) hd
      have hlen' : rs.length = ops.size := by rw [hlen]; simp
      refine wp_region_any hm ?_
      refine drawn_wp hT hF hlen' hr.wf c hfr hq ops.size (fun _ => false) (Array.replicate ops.size false) a _ R (by simp) (fun i hi => by simp [Array.getD_eq_getD_getElem?, hi]) (fun _ _ => rfl) ?_ ?_
      · unfold todo
        exact Nat.le_trans (List.length_filter_le _ _) (by simp)
      · have hsel0 : ∀ k, gS s.2 rs (fun _ => false) k = s.2.get k := fun k => ovr_none rs 0 _ (fun _ _ _ _ => rfl)
        have hslot0 : ∀ k, tS s.1 rs (fun _ => false) k = s.1[k]? := fun k => ovr_none rs 0 _ (fun _ _ _ _ => rfl)
        have hrd : Rel s.2 R { w with drawn := w.drawn + 1 } := hr.drawn rfl
        exact {
          rel := ⟨fun id o ho => hrd.obj id o (by rw [← hsel0]; exact ho), fun id id' o o' l l' h1 h2 => hrd.inj id id' o o' l l' (by rw [← hsel0]; exact h1) (by rw [← hsel0]; exact h2)⟩
          le := R.le_refl
          fresh := fun _ h0 h1 => (h1 h0).elim
          tsize := ht.1.symm
          slots := fun t z hz => ht.2 t z (by rw [← hslot0]; exact hz)
          defers := hdf
          os := rfl
          tape := rfl
          output := rfl
          size := Nat.le_refl _
          block := fun _ _ _ => rfl
          own := fun b ⟨id, o, l, h1, h2⟩ => .inl ⟨id, o, l, by rw [← hsel0]; exact h1, h2⟩
          closed := fun j q h => by cases h }
  · cases he
end
end Go.Ab
