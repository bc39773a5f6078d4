/- Steps of the abstract heap: a new object, an object written, cells loaded and stored. Conditions: none. -/
import Derived.Test.YtcgoamfjpnkiiaaGreatAbC
set_option linter.all false
namespace Go.Ab
noncomputable section
open Go.RowKit

/-- What an operation leaves alone, seen from the abstract heap alone. -/
structure Q (h h' : H) : Prop where
  n : h.n ≤ h'.n
  lw : h'.lw ≤ h.lw
  keep : ∀ id, id < h.n → id < h'.lw → h'.get id = h.get id
  dom : (∀ id o, h.get id = some o → id < h.n) → ∀ id o, h'.get id = some o → id < h'.n
  gone : ∀ id, id < h.n → h.get id = none → h'.get id = none
  ro : ∀ id o, h'.get id = some o → o.ro = true → h.get id = some o

theorem Q.refl (h : H) : Q h h := ⟨Nat.le_refl _, Nat.le_refl _, fun _ _ _ => rfl, fun a => a, fun _ _ a => a, fun _ _ a _ => a⟩
theorem Q.trans {a b c : H} (x : Q a b) (y : Q b c) : Q a c :=
  ⟨Nat.le_trans x.n y.n, Nat.le_trans y.lw x.lw, fun id h1 h2 => by rw [y.keep id (Nat.lt_of_lt_of_le h1 x.n) h2, x.keep id h1 (Nat.lt_of_lt_of_le h2 y.lw)], fun d => y.dom (x.dom d), fun id h1 h2 => y.gone id (Nat.lt_of_lt_of_le h1 x.n) (x.gone id h1 h2), fun id o h1 h2 => x.ro id o (y.ro id o h1 h2) h2⟩
theorem Q.set {h : H} {id : Nat} {o o' : AObj} (hid : h.get id = some o) (hro : o'.ro = false := by rfl) : Q h (h.set id o') :=
  ⟨Nat.le_refl _, by simp; omega, fun k h1 h2 => by simp at h2 ⊢; intro e; omega, fun d k o2 hk => by
    simp at hk ⊢
    by_cases e : k = id
    · subst e; exact d k o hid
    · rw [if_neg e] at hk; exact d k _ hk, fun k _ hk => by
    rw [H.get_set]
    by_cases e : k = id
    · subst e; rw [hid] at hk; cases hk
    · rw [if_neg e]; exact hk, fun k o2 hk hr => by
    rw [H.get_set] at hk
    by_cases e : k = id
    · rw [if_pos e] at hk; cases hk; rw [hro] at hr; cases hr
    · rw [if_neg e] at hk; exact hk⟩
theorem Q.del {h : H} {id : Nat} : Q h (h.del id) :=
  ⟨Nat.le_refl _, by simp; omega, fun k h1 h2 => by simp at h2 ⊢; intro e; omega, fun d k o2 hk => by
    simp at hk ⊢
    exact d k _ hk.2, fun k _ hk => by simp [hk], fun k o2 hk _ => by simp at hk; exact hk.2⟩
theorem Q.new {h : H} {o : AObj} (hro : o.ro = false := by rfl) : Q h (h.new o) :=
  ⟨by simp, by simp, fun k h1 _ => by simp; intro e; omega, fun d k o2 hk => by
    simp at hk ⊢
    by_cases e : k = h.n
    · omega
    · rw [if_neg e] at hk; have := d k _ hk; omega, fun k h1 hk => by
    rw [H.get_new, if_neg (by omega)]; exact hk, fun k o2 hk hr => by
    rw [H.get_new] at hk
    by_cases e : k = h.n
    · rw [if_pos e] at hk; cases hk; rw [hro] at hr; cases hr
    · rw [if_neg e] at hk; exact hk⟩

/-- A row with a piece of it replaced. -/
def splice (off : Nat) (vs cs : List Value) : List Value := Fast.splice off vs cs
theorem splice_zn (cs : List Value) : splice 0 [] cs = cs := rfl
theorem splice_zc (v : Value) (vs : List Value) (c : Value) (cs : List Value) : splice 0 (v :: vs) (c :: cs) = v :: splice 0 vs cs := rfl
theorem splice_sc (n : Nat) (vs : List Value) (c : Value) (cs : List Value) : splice (n + 1) vs (c :: cs) = c :: splice n vs cs := rfl

theorem splice_length : ∀ (cs : List Value) (off : Nat) (vs : List Value), off + vs.length ≤ cs.length → (splice off vs cs).length = cs.length
  | cs, 0, [], _ => by cases cs <;> rfl
  | c :: cs, 0, v :: vs, h => by simp only [splice_zc, splice_sc, List.length_cons]; rw [splice_length cs 0 vs (by simp at h; omega)]
  | [], 0, v :: vs, h => by simp at h
  | c :: cs, n + 1, vs, h => by simp only [splice_zc, splice_sc, List.length_cons]; rw [splice_length cs n vs (by simp at h; omega)]
  | [], n + 1, vs, h => by simp at h

theorem splice_get : ∀ (cs : List Value) (off : Nat) (vs : List Value) (j : Nat), off + vs.length ≤ cs.length →
    (splice off vs cs)[j]? = if off ≤ j ∧ j < off + vs.length then vs[j - off]? else cs[j]?
  | cs, 0, [], j, _ => by simp [splice_zn]
  | c :: cs, 0, v :: vs, j, h => by
    cases j with
    | zero => simp [splice_zc, splice_sc]
    | succ j =>
      simp only [splice_zc, splice_sc, List.getElem?_cons_succ]
      rw [splice_get cs 0 vs j (by simp at h; omega)]
      simp
  | [], 0, v :: vs, _, h => by simp at h
  | c :: cs, n + 1, vs, j, h => by
    cases j with
    | zero => simp [splice_zc, splice_sc]
    | succ j =>
      simp only [splice_zc, splice_sc, List.getElem?_cons_succ]
      rw [splice_get cs n vs j (by simp at h; omega)]
      by_cases hc : n ≤ j ∧ j < n + vs.length
      · rw [if_pos hc, if_pos (by omega)]
        congr 1
        omega
      · rw [if_neg hc, if_neg (by omega)]
  | [], n + 1, vs, _, h => by simp at h

section
variable {P : Program} {Ty : Types} {h : H} {R : Ren} {w : World}

/-- A world whose memory is the same. -/
theorem Step.world (hr : Rel h R w) {w' : World} (hh : w'.heap = w.heap) (ho : w'.os = w.os) (ht : w'.tape = w.tape) (hu : w'.output = w.output) : Step h R w h R w' where
  rel := ⟨hr.wf, fun id o ho => (hr.obj id o ho).mono R.le_refl (fun _ _ => by rw [hh]), hr.inj⟩
  le := R.le_refl
  fresh := fun _ a b => (b a).elim
  n := Nat.le_refl _
  os := ho
  tape := ht
  output := hu
  size := by rw [hh]; exact Nat.le_refl _
  block := fun _ _ _ => by rw [hh]
  own := fun _ ho => .inl ho

theorem Rel.lt (hr : Rel h R w) {id : Nat} {o : AObj} {l : Loc} (ho : h.get id = some o) (hl : R id = some l) : l.blk < w.heap.size := by
  obtain ⟨l', ob, h1, h2⟩ := (hr.obj id o ho).loc
  rw [hl] at h1; cases h1
  exact (Array.getElem?_eq_some_iff.1 h2).1

def Ren.upd (R : Ren) (id : Nat) (l : Loc) : Ren := fun k => if k = id then some l else R k

theorem Ren.le_upd {id : Nat} {l : Loc} (hn : R id = none) : R.le (R.upd id l) := fun k x hk => by
  unfold Ren.upd
  split
  · rename_i e; subst e; rw [hn] at hk; cases hk
  · exact hk

theorem step_new (hr : Rel h R w) (hn : R h.n = none) (ob : Obj) (sz : Nat) (o : AObj) (ho : OR (R.upd h.n ⟨w.heap.size, 0, sz⟩) { w with heap := w.heap.push ob } h.n o) :
    Step h R w (h.new o) (R.upd h.n ⟨w.heap.size, 0, sz⟩) { w with heap := w.heap.push ob } where
  rel := by
    have hne : ∀ id o, h.get id = some o → id ≠ h.n := by
      intro id o ho e
      subst e
      obtain ⟨l, _, h1, _⟩ := (hr.obj _ o ho).loc
      rw [hn] at h1; cases h1
    refine ⟨fun id o' hid => ?_, fun id o' hid => ?_, fun id id' o1 o2 l l' h1 h2 hid hro hl hl' => ?_⟩
    · rw [H.get_new] at hid
      rw [H.n_new]
      by_cases e : id = h.n
      · omega
      · rw [if_neg e] at hid; have := hr.wf id o' hid; omega
    · rw [H.get_new] at hid
      by_cases e : id = h.n
      · subst e; rw [if_pos rfl] at hid; cases hid; exact ho
      · rw [if_neg e] at hid
        refine (hr.obj id o' hid).mono (Ren.le_upd hn) (fun l hl => ?_)
        show (w.heap.push ob)[l.blk]? = _
        rw [Array.getElem?_push, if_neg (by have := hr.lt hid hl; omega)]
    · rw [H.get_new] at h1 h2
      unfold Ren.upd at hl hl'
      by_cases e : id = h.n
      · rw [if_pos e] at hl
        cases hl
        have e' : id' ≠ h.n := fun e' => hid (e.trans e'.symm)
        rw [if_neg e'] at h2 hl'
        have := hr.lt h2 hl'
        simp; omega
      · rw [if_neg e] at h1 hl
        by_cases e' : id' = h.n
        · rw [if_pos e'] at hl'
          cases hl'
          have := hr.lt h1 hl
          simp; omega
        · rw [if_neg e'] at h2 hl'
          exact hr.inj id id' o1 o2 l l' h1 h2 hid hro hl hl'
  le := Ren.le_upd hn
  fresh := fun id h0 h1 => by
    unfold Ren.upd at h1
    split at h1
    · rename_i e; subst e; simp
    · exact (h1 h0).elim
  n := by simp
  os := rfl
  tape := rfl
  output := rfl
  size := by simp
  block := fun b hb _ => by
    show (w.heap.push ob)[b]? = _
    rw [Array.getElem?_push, if_neg (by omega)]
  own := fun b hb => by
    obtain ⟨id, o', l, h1, h2, h3, rfl⟩ := hb
    rw [H.get_new] at h1
    unfold Ren.upd at h3
    by_cases e : id = h.n
    · rw [if_pos e] at h3; cases h3; exact .inr (Nat.le_refl _)
    · rw [if_neg e] at h1 h3; exact .inl ⟨id, o', l, h1, h2, h3, rfl⟩

theorem step_set (hr : Rel h R w) {id : Nat} {o o' : AObj} {l : Loc} {w' : World} (hid : h.get id = some o) (hro : o.ro = false) (hro' : o'.ro = false) (hl : R id = some l)
    (hs : w'.heap.size = w.heap.size) (hos : w'.os = w.os) (ht : w'.tape = w.tape) (hu : w'.output = w.output) (hb : ∀ b, b ≠ l.blk → w'.heap[b]? = w.heap[b]?) (ho : OR R w' id o') :
    Step h R w (h.set id o') R w' where
  rel := by
    refine ⟨fun k o2 hk => ?_, fun k o2 hk => ?_, fun k k' o1 o2 x x' h1 h2 hkk hr1 hx hx' => ?_⟩
    · rw [H.get_set] at hk
      rw [H.n_set]
      by_cases e : k = id
      · subst e; exact hr.wf k o hid
      · rw [if_neg e] at hk; exact hr.wf k o2 hk
    · rw [H.get_set] at hk
      by_cases e : k = id
      · subst e; rw [if_pos rfl] at hk; cases hk; exact ho
      · rw [if_neg e] at hk
        exact (hr.obj k o2 hk).mono R.le_refl (fun x hx => hb _ (fun e' => hr.inj id k o o2 l x hid hk (fun e2 => e e2.symm) hro hl hx e'.symm))
    · have g : ∀ k o1, (h.set id o').get k = some o1 → ∃ o3, h.get k = some o3 ∧ (o1.ro = false → o3.ro = false) := by
        intro k o1 h1
        rw [H.get_set] at h1
        by_cases e : k = id
        · subst e; exact ⟨o, hid, fun _ => hro⟩
        · rw [if_neg e] at h1; exact ⟨o1, h1, fun a => a⟩
      obtain ⟨o3, h3, r3⟩ := g k o1 h1
      obtain ⟨o4, h4, _⟩ := g k' o2 h2
      exact hr.inj k k' o3 o4 x x' h3 h4 hkk (r3 hr1) hx hx'
  le := R.le_refl
  fresh := fun _ a b => (b a).elim
  n := by simp
  os := hos
  tape := ht
  output := hu
  size := by omega
  block := fun b hb' hno => hb b (fun e => hno ⟨id, o, l, hid, hro, hl, e.symm⟩)
  own := fun b hb' => by
    obtain ⟨k, o2, x, h1, h2, h3, rfl⟩ := hb'
    rw [H.get_set] at h1
    by_cases e : k = id
    · subst e; exact .inl ⟨k, o, x, hid, hro, h3, rfl⟩
    · rw [if_neg e] at h1; exact .inl ⟨k, o2, x, h1, h2, h3, rfl⟩

/-- Cells of a world set one by one. -/
theorem setCells_at (b : Nat) (e : TypeId) (fr : Nat × Nat) : ∀ (vs : List Value) (o : Nat) (w : World) (c : Array Value), w.heap[b]? = some (.cells c e fr) →
    ∃ c', (w.setCells b o vs).heap[b]? = some (.cells c' e fr) ∧ c'.size = c.size ∧ ∀ j : Nat, c'[j]? = if o ≤ j ∧ j < o + vs.length ∧ j < c.size then vs[j - o]? else c[j]?
  | [], o, w, c, hc => ⟨c, hc, rfl, fun j => by rw [if_neg (by simp; omega)]⟩
  | v :: vs, o, w, c, hc => by
    have h1 : (w.setCell ⟨b, o, none⟩ v).heap[b]? = some (.cells (c.setIfInBounds o v) e fr) := by
      simp [World.setCell, Array.getElem?_modify, hc]
    obtain ⟨c', h2, h3, h4⟩ := setCells_at b e fr vs (o + 1) _ _ h1
    refine ⟨c', h2, by simpa using h3, fun j => ?_⟩
    rw [h4 j]
    simp only [Array.size_setIfInBounds, List.length_cons, Array.getElem?_setIfInBounds]
    by_cases c1 : o + 1 ≤ j ∧ j < o + 1 + vs.length ∧ j < c.size
    · rw [if_pos c1, if_pos (by omega)]
      obtain ⟨k, hk⟩ : ∃ k, j - o = k + 1 := ⟨j - o - 1, by omega⟩
      rw [hk, List.getElem?_cons_succ]
      congr 1; omega
    · rw [if_neg c1]
      by_cases c2 : o = j
      · subst c2
        by_cases c3 : o < c.size
        · rw [if_pos rfl, if_pos c3, if_pos (by omega)]; simp
        · rw [if_pos rfl, if_neg c3, if_neg (by omega)]
          rw [Array.getElem?_eq_none (by omega)]
      · rw [if_neg c2, if_neg (by omega)]

theorem setCells_rest (b : Nat) : ∀ (vs : List Value) (o : Nat) (w : World), (w.setCells b o vs).heap.size = w.heap.size ∧ (w.setCells b o vs).os = w.os ∧ (w.setCells b o vs).tape = w.tape ∧
    (w.setCells b o vs).output = w.output ∧ ∀ k, k ≠ b → (w.setCells b o vs).heap[k]? = w.heap[k]?
  | [], _, _ => ⟨rfl, rfl, rfl, rfl, fun _ _ => rfl⟩
  | v :: vs, o, w => by
    obtain ⟨a, b', c, d, f⟩ := setCells_rest b vs (o + 1) (w.setCell ⟨b, o, none⟩ v)
    refine ⟨by rw [World.setCells, a]; simp, by rw [World.setCells, b']; rfl, by rw [World.setCells, c]; rfl, by rw [World.setCells, d]; rfl, fun k hk => ?_⟩
    rw [World.setCells, f k hk]
    exact Below.heap_setCell _ _ _ _ hk

/-- The cells of an object, from a place on. -/
def H.seg (h : H) (id off n : Nat) : Option (List Value) :=
  match h.get id with
  | some (.cells cs _ _) => Ab.seg cs off n
  | _ => none

def H.write (h : H) (id off : Nat) (vs : List Value) : Option H :=
  match h.get id with
  | some (.cells cs tag false) => cond (Nat.ble (off + Fast.len vs) (Fast.len cs) && Fast.all oneCell vs) (some (h.set id (.cells (splice off vs cs) tag false))) none
  | _ => none
theorem H.write_def (h : H) (id off : Nat) (vs : List Value) : h.write id off vs =
  match h.get id with
  | some (.cells cs tag false) => cond (Nat.ble (off + vs.length) cs.length && vs.all oneCell) (some (h.set id (.cells (splice off vs cs) tag false))) none
  | _ => none := by
  unfold H.write
  simp only [Fast.len_eq, Fast.all_eq]

theorem add_none (b o n : Nat) : Addr.add ⟨b, o, none⟩ n = ⟨b, o + n, none⟩ := by unfold Addr.add; split <;> simp_all

theorem seg_cells (hr : Rel h R w) {id off n : Nat} {vs : List Value} {l : Loc} (hs : h.seg id off n = some vs) (hl : R id = some l) :
    ∃ us, LR R vs us ∧ us.length = n ∧ ∀ (j : Nat) v, us[j]? = some v → w.cell? (Addr.add ⟨l.blk, l.off + off, none⟩ j) = some v := by
  unfold H.seg at hs
  cases hg : h.get id with
  | none => rw [hg] at hs; cases hs
  | some o =>
    rw [hg] at hs
    cases o with
    | map es cl t => simp at hs
    | iter s p => simp at hs
    | miter m s p t => simp at hs
    | cells cs t ro =>
      simp only at hs
      obtain ⟨l', c, e, fr, h1, h2, h3, h4, h5, h6⟩ := hr.obj id _ hg
      rw [hl] at h1; cases h1
      obtain ⟨s1, s2, s3⟩ := seg_some hs
      refine ⟨(c.toList.drop (l.off + off)).take n, ?_, ?_, ?_⟩
      · refine ⟨by rw [s3]; simp; omega, fun i x y hx hy => ?_⟩
        have hi : i < n := by
          rcases Nat.lt_or_ge i n with h | h
          · exact h
          · rw [List.getElem?_eq_none (by omega)] at hx; cases hx
        rw [seg_get hs i hi] at hx
        rw [List.getElem?_take, if_pos hi, List.getElem?_drop] at hy
        obtain ⟨v', a, b⟩ := h5 _ _ hx
        rw [← Array.getElem?_toList] at a
        rw [show l.off + off + i = l.off + (off + i) by omega, a] at hy
        cases hy
        exact b
      · simp; omega
      · intro j v hj
        have hi : j < n := by
          rcases Nat.lt_or_ge j n with h | h
          · exact h
          · rw [List.getElem?_eq_none (by simp; omega)] at hj; cases hj
        rw [List.getElem?_take, if_pos hi, List.getElem?_drop] at hj
        rw [add_none]
        simpa [World.cell?, h2] using hj

theorem write_step (hr : Rel h R w) {id off : Nat} {vs us : List Value} {l : Loc} {h' : H} (hs : h.write id off vs = some h') (hl : R id = some l) (hv : LR R vs us) :
    (storeCells ⟨l.blk, l.off + off, none⟩ us).run P w = .ok () (w.setCells l.blk (l.off + off) us) ∧ Step h R w h' R (w.setCells l.blk (l.off + off) us) ∧ Q h h' := by
  rw [H.write_def] at hs
  cases hg : h.get id with
  | none => rw [hg] at hs; cases hs
  | some o =>
    rw [hg] at hs
    cases o with
    | map es cl t => simp at hs
    | iter s p => simp at hs
    | miter m s p t => simp at hs
    | cells cs t ro =>
      cases ro with
      | true => simp at hs
      | false =>
        simp only at hs
        cases hc : (Nat.ble (off + vs.length) cs.length && vs.all oneCell) with
        | false => rw [hc] at hs; simp at hs
        | true =>
          rw [hc] at hs
          simp only [cond_true, Option.some.injEq] at hs
          subst hs
          rw [Bool.and_eq_true] at hc
          have hle := Nat.le_of_ble_eq_true hc.1
          have hone : ∀ v ∈ us, v.oneCell' = true := by
            intro v hm
            obtain ⟨i, hi⟩ := List.getElem?_of_mem hm
            have hi' : i < vs.length := by
              rw [hv.1]
              rcases Nat.lt_or_ge i us.length with h | h
              · exact h
              · rw [List.getElem?_eq_none h] at hi; cases hi
            rw [(hv.2 i vs[i] v (List.getElem?_eq_getElem hi') hi).oneCell]
            exact List.all_eq_true.1 hc.2 _ (List.getElem_mem hi')
          have hor := hr.obj id _ hg
          obtain ⟨l', c, e, fr, h1, h2, h3, h4, h5, h6⟩ := hor
          rw [hl] at h1; cases h1
          have hlen := hv.1
          have hcell : ∀ j, j < us.length → (w.cell? ⟨l.blk, l.off + off + j, none⟩).isSome = true := by
            intro j hj
            simp [World.cell?, h2]
            omega
          have hfr : ∀ j, j < us.length → w.frozen? ⟨l.blk, l.off + off + j, none⟩ = false := by
            intro j hj
            have := fr_ok (i := l.off + off + j) (h6 rfl).2 (by omega)
            simp only [World.frozen?, h2]
            simpa using this
          refine ⟨?_, ?_, Q.set hg⟩
          · have := run_storeCells_cells (P := P) l.blk (l.off + off) us 0 w (by simpa using hcell) (by simpa using hfr) hone
            simpa using this
          · obtain ⟨c', k1, k2, k3⟩ := setCells_at l.blk e fr us (l.off + off) w c h2
            obtain ⟨r1, r2, r3, r4, r5⟩ := setCells_rest l.blk us (l.off + off) w
            refine step_set hr hg rfl rfl hl r1 r2 r3 r4 r5 ⟨l, c', e, fr, hl, k1, by rw [h3, k2], by rw [splice_length _ _ _ hle, k2]; exact h4, ?_, fun _ => ⟨(h6 rfl).1, by rw [k2]; exact (h6 rfl).2⟩⟩
            intro i v hi
            rw [splice_get _ _ _ _ hle] at hi
            rw [k3]
            by_cases hc2 : off ≤ i ∧ i < off + vs.length
            · rw [if_pos hc2] at hi
              rw [if_pos (by omega)]
              have hj : i - off < us.length := by omega
              refine ⟨us[i - off], ?_, hv.2 _ _ _ hi (List.getElem?_eq_getElem hj)⟩
              rw [show l.off + i - (l.off + off) = i - off by omega]
              exact List.getElem?_eq_getElem hj
            · rw [if_neg hc2] at hi
              rw [if_neg (by omega)]
              exact h5 i v hi

/-- A new row of cells. -/
theorem newRow_step (hr : Rel h R w) (hn : R h.n = none) (elem tag : TypeId) {vs : List Value} {us : Array Value} (hv : LR R vs us.toList) :
    ∃ R', (newRow elem us).run P w = .ok ⟨w.heap.size, 0, none⟩ { w with heap := w.heap.push (.cells us elem) } ∧
      Step h R w (h.new (.cells vs tag false)) R' { w with heap := w.heap.push (.cells us elem) } ∧ R' h.n = some ⟨w.heap.size, 0, us.size⟩ ∧ Q h (h.new (.cells vs tag false)) := by
  have hu : (R.upd h.n ⟨w.heap.size, 0, us.size⟩) h.n = some ⟨w.heap.size, 0, us.size⟩ := by simp [Ren.upd]
  refine ⟨R.upd h.n ⟨w.heap.size, 0, us.size⟩, by simp [newRow], ?_, hu, Q.new⟩
  refine step_new hr hn _ _ _ ⟨⟨w.heap.size, 0, us.size⟩, us, elem, (0, 0), hu, by simp, rfl, ?_, ?_, fun _ => ⟨rfl, .inl rfl⟩⟩
  · have := hv.1; simp at this; simp; omega
  · intro i v hi
    have hi' : i < us.toList.length := by
      rw [← hv.1]
      rcases Nat.lt_or_ge i vs.length with h | h
      · exact h
      · rw [List.getElem?_eq_none h] at hi; cases hi
    refine ⟨us.toList[i], ?_, (hv.2 i v _ hi (List.getElem?_eq_getElem hi')).le (Ren.le_upd hn)⟩
    rw [← Array.getElem?_toList]
    simp
end
end
end Go.Ab
