/- Regions that draw their order, over an abstract heap: every order. Conditions: none. -/
import Derived.Test.YtcgoamfjpnkiiaaGreatAbO
set_option linter.all false
namespace Go.Ab
noncomputable section
open Go.RowKit

structure RelG (g : Nat → Option AObj) (R : Ren) (w : World) : Prop where
  obj : ∀ id o, g id = some o → OR R w id o
  inj : ∀ id id' o o' l l', g id = some o → g id' = some o' → id ≠ id' → o.ro = false → R id = some l → R id' = some l' → l.blk ≠ l'.blk

def OwnedG (g : Nat → Option AObj) (R : Ren) (b : Nat) : Prop := ∃ id o l, g id = some o ∧ o.ro = false ∧ R id = some l ∧ l.blk = b

theorem safeOk_spec {w : Bool} {k : List Nat} {r : Rec} (h : safeOk w k r.dom = true) (id : Nat) (hw : (w && !k.contains id) = true) (h2 : r.sees id = true) : False := by
  unfold safeOk at h
  rw [Bool.and_eq_true] at hw
  rw [hw.1, Bool.not_true, Bool.false_or] at h
  unfold Rec.sees at h2
  cases hr : r.dom with
  | none => rw [hr] at h; cases h
  | some l =>
    rw [hr] at h h2
    have := List.all_eq_true.1 h id (by simpa using h2)
    have h3 := hw.2
    simp only [this] at h3
    cases h3

theorem heapOk_spec {q r : Rec} (h : heapOk q.wr q.kept q.dom r.wr r.kept r.dom = true) (id : Nat) (hw : q.chg id = true ∨ r.chg id = true) (h1 : q.sees id = true) (h2 : r.sees id = true) : False := by
  unfold heapOk at h
  rw [Bool.or_eq_true] at h
  rcases h with h | h
  · rw [Bool.and_eq_true] at h
    rcases hw with hw | hw
    · exact safeOk_spec h.1 id hw h2
    · exact safeOk_spec h.2 id hw h1
  unfold Rec.sees at h1 h2
  cases hq : q.dom with
  | none =>
    cases hr : r.dom with
    | none => rw [hq, hr] at h; cases h
    | some b =>
      rw [hq, hr] at h
      rw [hr] at h2
      have : b = [] := by simpa using h
      subst this
      simp at h2
  | some a =>
    cases hr : r.dom with
    | none =>
      rw [hq, hr] at h
      rw [hq] at h1
      have : a = [] := by simpa using h
      subst this
      simp at h1
    | some b =>
      rw [hq, hr] at h
      rw [hq] at h1
      rw [hr] at h2
      have hd : disj a b = true := h
      have := List.all_eq_true.1 hd id (by simpa using h1)
      simp only [h2] at this
      cases this

section
variable {P : Program} {Ty : Types} {F : FunT} {ops : Array Oper} {base hE : H} {ts0 tsE : List Value} {rs : List Rec}

theorem makes_lt {q : Rec} {i : Nat} (g : GoodR Ty F ops base ts0 rs i q) {id : Nat} (h : q.makes id = true) : id < q.hi := by
  simp only [Rec.makes, Bool.or_eq_true, Bool.and_eq_true] at h
  rcases h with h | h
  · exact blt_true h.2
  · have := g.seesLt id h.2; have := g.lohi; omega

/-- Two that are not ordered do not meet. -/
theorem meet1 (c : Can Ty F ops base ts0 rs tsE hE) {i j : Nat} {q r : Rec} (hj : rs[j]? = some q) (hi : rs[i]? = some r) (hlt : j < i) (hm : r.mask.testBit j = false) (id : Nat) (h1 : q.makes id = true) (h2 : r.sees id = true) : False := by
  have gr := c.good i r hi
  have ha := gr.apart j q hlt hj hm
  simp only [apartOk, Bool.and_eq_true] at ha
  simp only [Rec.makes, Bool.or_eq_true, Bool.and_eq_true] at h1
  rcases h1 with h1 | h1
  · have a1 := Nat.le_of_ble_eq_true h1.1
    have a2 := blt_true h1.2
    cases hd : r.dom with
    | some l =>
      have h3 := ha.2
      rw [hd] at h3
      have hin : l.contains id = true := by unfold Rec.sees at h2; rw [hd] at h2; exact h2
      have := List.all_eq_true.1 h3 id (by simpa using hin)
      rw [Bool.or_eq_true] at this
      rcases this with this | this
      · have := blt_true this; omega
      · have := Nat.le_of_ble_eq_true this; omega
    | none =>
      have h3 := gr.cutIn hd j q hlt hj hm id a1 a2
      unfold Rec.sees at h2
      rw [hd] at h2
      simp only [h3, Bool.not_true, Bool.and_false] at h2
      cases h2
  · exact heapOk_spec ha.1.2 id (.inl h1.1) h1.2 h2

theorem meet2 (c : Can Ty F ops base ts0 rs tsE hE) {i j : Nat} {q r : Rec} (hj : rs[j]? = some q) (hi : rs[i]? = some r) (hlt : j < i) (hm : r.mask.testBit j = false) (id : Nat) (h1 : q.sees id = true) (h2 : r.makes id = true) : False := by
  have gr := c.good i r hi
  have gq := c.good j q hj
  have ha := gr.apart j q hlt hj hm
  simp only [apartOk, Bool.and_eq_true] at ha
  simp only [Rec.makes, Bool.or_eq_true, Bool.and_eq_true] at h2
  rcases h2 with h2 | h2
  · have a1 := Nat.le_of_ble_eq_true h2.1
    have := gr.order j q hlt hj
    have := gq.lohi
    have := gq.seesLt id h1
    omega
  · exact heapOk_spec ha.1.2 id (.inr h2.1) h1 h2.2

theorem meet3 (c : Can Ty F ops base ts0 rs tsE hE) {i j : Nat} {q r : Rec} (hj : rs[j]? = some q) (hi : rs[i]? = some r) (hlt : j < i) (hm : r.mask.testBit j = false) (id : Nat) (h1 : q.makes id = true) (h2 : r.makes id = true) : False := by
  have gr := c.good i r hi
  have gq := c.good j q hj
  have h2' := h2
  simp only [Rec.makes, Bool.or_eq_true, Bool.and_eq_true] at h2
  rcases h2 with h2 | h2
  · have a1 := Nat.le_of_ble_eq_true h2.1
    have := gr.order j q hlt hj
    have := makes_lt gq h1
    omega
  · exact meet1 c hj hi hlt hm id h1 h2.2

/-- The same of slots. -/
theorem meetS (c : Can Ty F ops base ts0 rs tsE hE) {i j : Nat} {q r : Rec} (hj : rs[j]? = some q) (hi : rs[i]? = some r) (hlt : j < i) (hm : r.mask.testBit j = false) (t : Nat) :
    (q.writes t = true → t ∈ r.reads → False) ∧ (r.writes t = true → t ∈ q.reads → False) ∧ (q.writes t = true → r.writes t = true → False) := by
  have gr := c.good i r hi
  have ha := gr.apart j q hlt hj hm
  simp only [apartOk, slotOk, Bool.and_eq_true] at ha
  obtain ⟨⟨⟨h1, h2⟩, _⟩, _⟩ := ha
  have wr : ∀ (z : Rec), z.writes t = true → z.dst = some t := by
    intro z hz
    unfold Rec.writes at hz
    cases hd : z.dst with
    | none => rw [hd] at hz; cases hz
    | some d => rw [hd] at hz; rw [Nat.eq_of_beq_eq_true hz]
  refine ⟨fun a b => ?_, fun a b => ?_, fun a b => ?_⟩
  · rw [wr q a] at h1
    simp only [Bool.and_eq_true] at h1
    have : r.reads.contains t = true := by simpa using b
    rw [this] at h1
    cases h1.1
  · rw [wr r a] at h2
    have : q.reads.contains t = true := by simpa using b
    simp only [this] at h2
    cases h2
  · rw [wr q a, wr r b] at h1
    simp only [Bool.and_eq_true, Nat.beq_refl] at h1
    cases h1.2

theorem writes_dst {r : Rec} {t : Nat} (h : r.writes t = true) : r.dst = some t := by
  unfold Rec.writes at h
  cases hd : r.dst with
  | none => rw [hd] at h; cases h
  | some d => rw [hd] at h; rw [Nat.eq_of_beq_eq_true h]

abbrev gS (base : H) (rs : List Rec) (sel : Nat → Bool) : Nat → Option AObj := ovr Rec.makes (fun r k => r.hout.get k) sel rs 0 base.get
abbrev tS (ts : List Value) (rs : List Rec) (sel : Nat → Bool) : Nat → Option Value := ovr Rec.writes (fun r _ => some r.val) sel rs 0 (fun t => ts[t]?)

def ClosedS (rs : List Rec) (sel : Nat → Bool) : Prop := ∀ (j : Nat) (q : Rec), sel j = true → rs[j]? = some q → ∀ m, q.mask.testBit m = true → sel m = true

theorem blt_iff {a b : Nat} : Nat.blt a b = true ↔ a < b := ⟨blt_true, fun h => Nat.ble_eq_true_of_le h⟩

theorem sees_same (c : Can Ty F ops base ts0 rs tsE hE) {sel : Nat → Bool} (hc : ClosedS rs sel) {i : Nat} {r : Rec} (hi : rs[i]? = some r) (hsel : sel i = false) (hm : ∀ m, r.mask.testBit m = true → sel m = true) {id : Nat} (hs : r.sees id = true) :
    gS base rs sel id = heapAt base rs i id := by
  refine ovr_congr rs 0 _ _ rfl fun j q hj hw => ?_
  rw [Nat.zero_add]
  rcases Nat.lt_trichotomy j i with h | h | h
  · rw [blt_iff.2 h]
    cases hb : r.mask.testBit j with
    | true => exact hm j hb
    | false => exact (meet1 c hj hi h hb id hw hs).elim
  · subst h
    have : Nat.blt j j = false := by cases hb : Nat.blt j j with | false => rfl | true => have := blt_true hb; omega
    rw [hsel, this]
  · have h0 : Nat.blt j i = false := by cases hb : Nat.blt j i with | false => rfl | true => have := blt_true hb; omega
    rw [h0]
    cases hsj : sel j with
    | false => rfl
    | true =>
      cases hb : q.mask.testBit i with
      | true => have := hc j q hsj hj i hb; rw [hsel] at this; cases this
      | false => exact (meet2 c hi hj h hb id hs hw).elim

theorem slot_same (c : Can Ty F ops base ts0 rs tsE hE) {sel : Nat → Bool} (hc : ClosedS rs sel) {i : Nat} {r : Rec} (hi : rs[i]? = some r) (hsel : sel i = false) (hm : ∀ m, r.mask.testBit m = true → sel m = true) {t : Nat} (hs : t ∈ r.reads) :
    tS ts0 rs sel t = slotAt ts0 rs i t := by
  refine ovr_congr rs 0 _ _ rfl fun j q hj hw => ?_
  rw [Nat.zero_add]
  rcases Nat.lt_trichotomy j i with h | h | h
  · rw [blt_iff.2 h]
    cases hb : r.mask.testBit j with
    | true => exact hm j hb
    | false => exact ((meetS c hj hi h hb t).1 hw hs).elim
  · subst h
    have : Nat.blt j j = false := by cases hb : Nat.blt j j with | false => rfl | true => have := blt_true hb; omega
    rw [hsel, this]
  · have h0 : Nat.blt j i = false := by cases hb : Nat.blt j i with | false => rfl | true => have := blt_true hb; omega
    rw [h0]
    cases hsj : sel j with
    | false => rfl
    | true =>
      cases hb : q.mask.testBit i with
      | true => have := hc j q hsj hj i hb; rw [hsel] at this; cases this
      | false => exact ((meetS c hi hj h hb t).2.1 hw hs).elim

theorem put_heap (c : Can Ty F ops base ts0 rs tsE hE) {sel : Nat → Bool} (hc : ClosedS rs sel) {i : Nat} {r : Rec} (hi : rs[i]? = some r) (hsel : sel i = false) (id : Nat) :
    gS base rs (fun j => j == i || sel j) id = if r.makes id = true then r.hout.get id else gS base rs sel id := by
  refine ovr_put hi fun hw j q hj hlt hwq => ?_
  cases hsj : sel j with
  | false => rfl
  | true =>
    cases hb : q.mask.testBit i with
    | true => have := hc j q hsj hj i hb; rw [hsel] at this; cases this
    | false => exact (meet3 c hi hj hlt hb id hw hwq).elim

theorem put_slot (c : Can Ty F ops base ts0 rs tsE hE) {sel : Nat → Bool} (hc : ClosedS rs sel) {i : Nat} {r : Rec} (hi : rs[i]? = some r) (hsel : sel i = false) (t : Nat) :
    tS ts0 rs (fun j => j == i || sel j) t = if r.writes t = true then some r.val else tS ts0 rs sel t := by
  refine ovr_put hi fun hw j q hj hlt hwq => ?_
  cases hsj : sel j with
  | false => rfl
  | true =>
    cases hb : q.mask.testBit i with
    | true => have := hc j q hsj hj i hb; rw [hsel] at this; cases this
    | false => exact ((meetS c hi hj hlt hb t).2.2 hw hwq).elim

/-- What holds when some have been done. -/
structure InvD (base : H) (ts0 : List Value) (rs : List Rec) (R0 : Ren) (w0 : World) (sel : Nat → Bool) (a : Act) (w : World) (R : Ren) : Prop where
  rel : RelG (gS base rs sel) R w
  le : R0.le R
  fresh : ∀ id, R0 id = none → R id ≠ none → ∃ (j : Nat) (q : Rec), sel j = true ∧ rs[j]? = some q ∧ q.lo ≤ id ∧ id < q.hi
  tsize : a.tmps.size = ts0.length
  slots : ∀ (t : Nat) v, tS ts0 rs sel t = some v → ∃ v', a.tmps[t]? = some v' ∧ KR R v v'
  defers : a.defers = []
  os : w.os = w0.os
  tape : w.tape = w0.tape
  output : w.output = w0.output
  size : w0.heap.size ≤ w.heap.size
  block : ∀ b, b < w0.heap.size → ¬ Owned base R0 b → w.heap[b]? = w0.heap[b]?
  own : ∀ b, OwnedG (gS base rs sel) R b → Owned base R0 b ∨ w0.heap.size ≤ b
  closed : ClosedS rs sel

theorem InvD.ev {R0 R : Ren} {w0 w : World} {a : Act} {sel : Nat → Bool} (v : InvD base ts0 rs R0 w0 sel a w R) (c : Can Ty F ops base ts0 rs tsE hE) {i : Nat} {r : Rec} (hi : rs[i]? = some r) (hsel : sel i = false) (hm : ∀ m, r.mask.testBit m = true → sel m = true) :
    (∀ (t : Nat) u, t ∈ r.reads → r.ts[t]? = some u → ∃ v', a.tmps[t]? = some v' ∧ KR R u v') ∧ EvR R (evalR r.reads r.ts) a := by
  have g := c.good i r hi
  have h1 : ∀ (t : Nat) u, t ∈ r.reads → r.ts[t]? = some u → ∃ v', a.tmps[t]? = some v' ∧ KR R u v' := by
    intro t u ht hu
    rw [g.slots t, ← slot_same c v.closed hi hsel hm ht] at hu
    exact v.slots t u hu
  refine ⟨h1, fun x u hx => ?_⟩
  cases x with
  | tmp t =>
    simp only [evalR] at hx
    cases hcn : r.reads.contains t with
    | false => rw [hcn] at hx; cases hx
    | true =>
      rw [hcn] at hx
      simp only [cond_true, evalT] at hx
      cases hu : r.ts[t]? with
      | none => rw [hu] at hx; cases hx
      | some z =>
        rw [hu] at hx
        obtain ⟨v', k1, k2⟩ := h1 t z (by simpa using hcn) hu
        simp only at hx
        cases hun : isUndef z with
        | true => rw [hun] at hx; cases hx
        | false =>
          rw [hun] at hx
          cases hx
          rcases k2 with k2 | k2
          · rw [hun] at k2; cases k2
          · have : a.eval (.tmp t) = v' := by simp [Act.eval, Array.getD_eq_getD_getElem?, k1]
            rw [this]; exact k2
  | const cv =>
    simp only [evalR, evalT] at hx
    cases hcb : closedB cv with
    | false => rw [hcb] at hx; cases hx
    | true => rw [hcb] at hx; cases hx; exact .ofClosed hcb
  | global gl => cases hx
  | func f =>
    simp only [evalR, evalT, Option.some.injEq] at hx
    subst hx
    exact .func _ _ _ _ _ rfl (fun i x y p q => by simp at p) rfl (fun i x y p q => by simp at p)

theorem wantR {o : Oper} {ts : List Value} {tm : Array Value} {b : Bool} {R : Ren} (h : ∀ (t : Nat) u, t ∈ readsOf ops o → ts[t]? = some u → ∃ v', tm[t]? = some v' ∧ KR R u v') (hw : wantT ops o ts = some b) : Region.wanted o (yielded ops tm) = b := by
  unfold wantT at hw
  unfold Region.wanted
  cases hg : o.guard with
  | none => rw [hg] at hw; simp only [Option.some.injEq] at hw; exact hw
  | some p =>
    obtain ⟨j, want⟩ := p
    rw [hg] at hw
    simp only at hw
    split at hw
    · cases hw
    · rename_i d hd
      split at hw
      · rename_i cc hcc
        simp only [Option.some.injEq] at hw
        obtain ⟨v', h1, h2⟩ := h d _ (by simp [readsOf, hg, hd]) hcc
        have : v' = .bool cc := by
          rcases h2 with h2 | h2
          · cases h2
          · cases h2; rfl
        subst this
        have hy : yielded ops tm j = some cc := by simp [yielded, hd, h1]
        simp [hy, hw]
      · rename_i vs hcc
        cases hv : vs.isEmpty with
        | false => rw [hv] at hw; cases hw
        | true =>
          rw [hv] at hw
          cases hw
          have hvs : vs = #[] := Array.isEmpty_iff.1 hv
          subst hvs
          obtain ⟨v', h1, h2⟩ := h d _ (by simp [readsOf, hg, hd]) hcc
          have : ∃ us, v' = .tuple us := by
            rcases h2 with h2 | h2
            · cases h2
            · cases h2; exact ⟨_, rfl⟩
          obtain ⟨us, rfl⟩ := this
          have hy : yielded ops tm j = none := by simp [yielded, hd, h1]
          simp [hy]
      · cases hw

theorem InvD.put {R0 R R' : Ren} {w0 w w' : World} {a : Act} {sel : Nat → Bool} (v : InvD base ts0 rs R0 w0 sel a w R) (c : Can Ty F ops base ts0 rs tsE hE) {i : Nat} {r : Rec} (hi : rs[i]? = some r) (hsel : sel i = false) (hm : ∀ m, r.mask.testBit m = true → sel m = true)
    (hst : Step r.hin R w r.hout R' w') (hq : Q r.hin r.hout) {u : Value} (hu : KR R' r.val u) (hfr : ∀ id, R id = none → R' id ≠ none → r.lo ≤ id ∧ id < r.hi) :
    InvD base ts0 rs R0 w0 (fun j => j == i || sel j) (a.put r.dst u) w' R' := by
  have g := c.good i r hi
  have hput := put_heap c v.closed hi hsel
  have hsub : ∀ id o, r.hin.get id = some o → gS base rs sel id = some o := by
    intro id o ho
    rw [g.hin] at ho
    split at ho
    · rename_i hs; rw [sees_same c v.closed hi hsel hm hs]; exact ho
    · cases ho
  -- an object that was there and is not seen by this one, nor made
  have hout : ∀ id o, gS base rs (fun j => j == i || sel j) id = some o → r.hout.get id = some o ∨ (r.hout.get id = none ∧ r.makes id = false ∧ gS base rs sel id = some o ∧ r.hin.get id = none) := by
    intro id o ho
    rw [hput] at ho
    split at ho
    · exact .inl ho
    · rename_i hnm
      have hnm' : r.makes id = false := by simpa using hnm
      by_cases hlt : id < r.lo
      · cases hs : r.sees id with
        | true =>
          have hwr : r.chg id = false := by
            cases hwr : r.chg id with
            | false => rfl
            | true => simp [Rec.makes, hwr, hs] at hnm'
          left
          rw [g.keep id hwr hlt hs, g.hin, if_pos hs, ← sees_same c v.closed hi hsel hm hs]
          exact ho
        | false => exact .inr ⟨g.noSee id hlt hs, hnm', ho, by rw [g.hin, hs]; rfl⟩
      · right
        have hnin : r.hin.get id = none := by
          rw [g.hin]
          split
          · rename_i hs; exact absurd (g.seesLt id hs) hlt
          · rfl
        refine ⟨?_, hnm', ho, hnin⟩
        cases hg : r.hout.get id with
        | none => rfl
        | some o' =>
          have h1 := g.top id o' hg
          exfalso
          have : r.makes id = true := by simp [Rec.makes, Nat.ble_eq_true_of_le (Nat.le_of_not_lt hlt), blt_iff.2 h1]
          rw [hnm'] at this; cases this
  -- what is owned by this one ahead is owned ahead
  have hown : ∀ b, Owned r.hin R b → OwnedG (gS base rs sel) R b := fun b ⟨id, o, l, h1, h2, h3, h4⟩ => ⟨id, o, l, hsub id o h1, h2, h3, h4⟩
  have hblk : ∀ id o l, gS base rs sel id = some o → R id = some l → l.blk < w.heap.size := by
    intro id o l ho hl
    obtain ⟨l', ob, h1, h2⟩ := (v.rel.obj id o ho).loc
    rw [hl] at h1; cases h1
    exact (Array.getElem?_eq_some_iff.1 h2).1
  -- a covered one and an uncovered one lie apart
  have hsep : ∀ id id2 o o2 l l2, r.hout.get id = some o → r.hin.get id2 = none → gS base rs sel id2 = some o2 → (o.ro = false ∨ o2.ro = false) → R' id = some l → R' id2 = some l2 → l.blk ≠ l2.blk := by
    intro id id2 o o2 l l2 h1 h2 h3 hro hl hl2
    obtain ⟨l3, _, e1, _⟩ := (v.rel.obj id2 o2 h3).loc
    have hl3 := hst.le _ _ e1
    rw [hl2] at hl3; cases hl3
    cases hr : o.ro with
    | false =>
      rcases hst.own l.blk ⟨id, o, l, h1, hr, hl, rfl⟩ with ⟨id3, o3, l3, k1, k2, k3, k4⟩ | hge
      · rw [← k4]
        exact v.rel.inj id3 id2 o3 o2 l3 l2 (hsub id3 o3 k1) h3 (fun e => by subst e; rw [h2] at k1; cases k1) k2 k3 e1
      · have := hblk id2 o2 l2 h3 e1; omega
    | true =>
      have hh := hq.ro id o h1 hr
      have hro2 : o2.ro = false := by rcases hro with hro | hro; rw [hr] at hro; cases hro; exact hro
      obtain ⟨l4, _, e4, _⟩ := (v.rel.obj id o (hsub id o hh)).loc
      have hl4 := hst.le _ _ e4
      rw [hl] at hl4; cases hl4
      exact (v.rel.inj id2 id o2 o l2 l h3 (hsub id o hh) (fun e => by subst e; rw [h2] at hh; cases hh) hro2 e1 e4).symm
  exact {
    rel := by
      refine ⟨fun id o ho => ?_, fun id id2 o o2 l l2 h1 h2 hne hro hl hl2 => ?_⟩
      · rcases hout id o ho with h | ⟨h1, h2, h3, h4⟩
        · exact hst.rel.obj id o h
        · refine (v.rel.obj id o h3).mono hst.le fun l hl => ?_
          refine hst.block _ (hblk id o l h3 hl) fun ⟨id3, o3, l3, k1, k2, k3, k4⟩ => ?_
          exact v.rel.inj id3 id o3 o l3 l (hsub id3 o3 k1) h3 (fun e => by subst e; rw [h4] at k1; cases k1) k2 k3 hl k4
      · rcases hout id o h1 with k1 | ⟨_, _, k3, k4⟩ <;> rcases hout id2 o2 h2 with m1 | ⟨_, _, m3, m4⟩
        · exact hst.rel.inj id id2 o o2 l l2 k1 m1 hne hro hl hl2
        · exact hsep id id2 o o2 l l2 k1 m4 m3 (.inl hro) hl hl2
        · exact (hsep id2 id o2 o l2 l m1 k4 k3 (.inr hro) hl2 hl).symm
        · obtain ⟨l3, _, e1, _⟩ := (v.rel.obj id o k3).loc
          obtain ⟨l4, _, e2, _⟩ := (v.rel.obj id2 o2 m3).loc
          have f1 := hst.le _ _ e1
          have f2 := hst.le _ _ e2
          rw [hl] at f1; cases f1
          rw [hl2] at f2; cases f2
          exact v.rel.inj id id2 o o2 l l2 k3 m3 hne hro e1 e2
    le := Ren.le_trans v.le hst.le
    fresh := fun id h0 h1 => by
      cases hR : R id with
      | none => obtain ⟨a1, a2⟩ := hfr id hR h1; exact ⟨i, r, by simp, hi, a1, a2⟩
      | some x =>
        obtain ⟨j, q, b1, b2, b3, b4⟩ := v.fresh id h0 (by rw [hR]; simp)
        exact ⟨j, q, by simp [b1], b2, b3, b4⟩
    tsize := by
      have := v.tsize
      cases hd : r.dst <;> simp [Act.put, this]
    slots := fun t z hz => by
      rw [put_slot c v.closed hi hsel] at hz
      by_cases hw : r.writes t = true
      · rw [if_pos hw] at hz
        cases hz
        have hd := writes_dst hw
        have hlt : t < a.tmps.size := by rw [v.tsize]; exact c.dstLt i r hi t hd
        exact ⟨u, by simp [hd, Act.put, Array.getElem?_setIfInBounds, hlt], hu⟩
      · rw [if_neg hw] at hz
        obtain ⟨v', a1, a2⟩ := v.slots t z hz
        refine ⟨v', ?_, a2.le hst.le⟩
        cases hd : r.dst with
        | none => exact a1
        | some d =>
          have e : d ≠ t := by intro e; subst e; exact hw (by simp [Rec.writes, hd])
          simp [Act.put, Array.getElem?_setIfInBounds, e, a1]
    defers := by rw [put_defers]; exact v.defers
    os := hst.os.trans v.os
    tape := hst.tape.trans v.tape
    output := hst.output.trans v.output
    size := Nat.le_trans v.size hst.size
    block := fun b hb hno => by
      rw [hst.block b (Nat.lt_of_lt_of_le hb v.size) (fun ho => by rcases v.own b (hown b ho) with h | h; exact hno h; omega)]
      exact v.block b hb hno
    own := fun b ⟨id, o, l, h1, h2, h3, h4⟩ => by
      rcases hout id o h1 with k1 | ⟨_, _, k3, k4⟩
      · rcases hst.own b ⟨id, o, l, k1, h2, h3, h4⟩ with h | h
        · exact v.own b (hown b h)
        · exact .inr (Nat.le_trans v.size h)
      · obtain ⟨l3, _, e1, _⟩ := (v.rel.obj id o k3).loc
        have f1 := hst.le _ _ e1
        rw [h3] at f1; cases f1
        exact v.own b ⟨id, o, l, k3, h2, e1, h4⟩
    closed := fun j q hj hjq m hmm => by
      by_cases e : j = i
      · subst e; rw [hi] at hjq; cases hjq; simp [hm m hmm]
      · have : sel j = true := by simpa [e] using hj
        simp [v.closed j q this hjq m hmm] }
end
end
end Go.Ab
