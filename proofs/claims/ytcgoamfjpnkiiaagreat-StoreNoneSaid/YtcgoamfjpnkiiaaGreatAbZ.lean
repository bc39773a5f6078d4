/- An operation of a drawn region sees but some objects: what it gives over these it gives over the whole heap. Conditions: none. -/
import Derived.Test.YtcgoamfjpnkiiaaGreatAbY
set_option linter.all false
namespace Go.Ab
noncomputable section
open Go.RowKit

namespace Tr
variable {α : Type}
theorem putF_self : ∀ (f : Nat) (t : Tr α) (k : Nat) (v : α), k < f → t.get k = some v → putF f t k (some v) = t
  | 0, _, _, _, h, _ => by omega
  | f + 1, t, k, v, h, hg => by
    rw [putF_eq]
    cases t with
    | leaf => simp [get_leaf] at hg
    | node l u r =>
      rw [get_eq] at hg
      by_cases hk : k = 0
      · rw [if_pos hk] at hg ⊢
        simp only [val] at hg
        subst hg; rfl
      · rw [if_neg hk] at hg ⊢
        by_cases hm : k % 2 = 1
        · rw [if_pos hm] at hg ⊢
          simp only [left, right, val] at hg ⊢
          rw [putF_self f l (k / 2) v (by omega) hg]
        · rw [if_neg hm] at hg ⊢
          simp only [left, right, val] at hg ⊢
          rw [putF_self f r (k / 2 - 1) v (by omega) hg]
theorem put_self {t : Tr α} {k : Nat} {v : α} (h : t.get k = some v) : t.put k (some v) = t := putF_self _ _ _ _ (Nat.lt_succ_self k) h

theorem putF_putF : ∀ (f : Nat) (t : Tr α) (k : Nat) (u v : Option α), k < f → putF f (putF f t k u) k v = putF f t k v
  | 0, _, _, _, _, h => by omega
  | f + 1, t, k, u, v, h => by
    rw [putF_eq, putF_eq, putF_eq]
    by_cases hk : k = 0
    · simp [hk, left, right]
    · simp only [if_neg hk]
      by_cases hm : k % 2 = 1
      · simp only [if_pos hm, left, right, val]
        rw [putF_putF f _ _ _ _ (by omega)]
      · simp only [if_neg hm, left, right, val]
        rw [putF_putF f _ _ _ _ (by omega)]
theorem put_put {t : Tr α} {k : Nat} {u v : Option α} : (t.put k u).put k v = t.put k v := putF_putF _ _ _ _ _ (Nat.lt_succ_self k)
end Tr

theorem H.ext' {a b : H} (h1 : a.m = b.m) (h2 : a.n = b.n) (h3 : a.lw = b.lw) : a = b := by
  cases a; cases b; simp only at h1 h2 h3; subst h1; subst h2; subst h3; rfl

theorem copyIds_append (src : H) : ∀ (a b : List Nat) (d : H), copyIds d src (a ++ b) = copyIds (copyIds d src a) src b
  | [], _, _ => rfl
  | x :: a, b, d => by
    show copyIds _ src (a ++ b) = _
    rw [copyIds_append src a b]; rfl

theorem copyIds_put {src : H} {m0 : Tr AObj} {id : Nat} {o : Option AObj} (hid : src.get id = o) : ∀ (ids : List Nat) (d : H), (∀ k ∈ ids, k ≠ id → ∃ v, src.get k = some v ∧ m0.get k = some v) → (d.m = m0 ∨ d.m = m0.put id o) → (id ∈ ids ∨ d.m = m0.put id o) → (copyIds d src ids).m = m0.put id o
  | [], d, _, _, h => by
    rcases h with h | h
    · cases h
    · exact h
  | k :: ids, d, hk, hd, hi => by
    rw [copyIds]
    have hk' : ∀ k' ∈ ids, k' ≠ id → ∃ v, src.get k' = some v ∧ m0.get k' = some v := fun k' h => hk k' (List.mem_cons_of_mem _ h)
    by_cases e : k = id
    · subst e
      have hm : d.m.put k (src.get k) = m0.put k o := by
        rw [hid]
        rcases hd with hd | hd
        · rw [hd]
        · rw [hd, Tr.put_put]
      exact copyIds_put hid ids _ hk' (.inr hm) (.inr hm)
    · obtain ⟨v, h1, h2⟩ := hk k List.mem_cons_self e
      have hm : d.m.put k (src.get k) = d.m := by
        rw [h1]
        refine Tr.put_self ?_
        rcases hd with hd | hd
        · rw [hd]; exact h2
        · rw [hd, Tr.get_put, if_neg e]; exact h2
      refine copyIds_put hid ids _ hk' (by rw [hm]; exact hd) ?_
      rw [hm]
      rcases hi with hi | hi
      · rcases List.mem_cons.1 hi with hi | hi
        · exact absurd hi.symm e
        · exact .inl hi
      · exact .inr hi

theorem copyIds_same {src : H} : ∀ (ids : List Nat) (d : H), (∀ k ∈ ids, ∃ v, src.get k = some v ∧ d.get k = some v) → (copyIds d src ids).m = d.m
  | [], _, _ => rfl
  | k :: ids, d, hk => by
    rw [copyIds]
    obtain ⟨v, h1, h2⟩ := hk k List.mem_cons_self
    have hm : d.m.put k (src.get k) = d.m := by rw [h1]; exact Tr.put_self h2
    have := copyIds_same ids { d with m := d.m.put k (src.get k) } fun k' hk' => by
      obtain ⟨w, a, b⟩ := hk k' (List.mem_cons_of_mem _ hk')
      exact ⟨w, a, by show (d.m.put k (src.get k)).get k' = _; rw [hm]; exact b⟩
    rw [this]; exact hm

def subH (h : H) (ids : List Nat) : H := copyIds (emptyH h.n) h ids
def mergeH (h h2 : H) (ids : List Nat) : H := { copyIds h h2 (ids ++ List.range' h.n (h2.n - h.n)) with n := h2.n, lw := min h.lw h2.lw }

theorem subH_n (h : H) (ids : List Nat) : (subH h ids).n = h.n := copyIds_n ..
theorem subH_lw (h : H) (ids : List Nat) : (subH h ids).lw = h.n := copyIds_lw ..
theorem subH_get (h : H) (ids : List Nat) (k : Nat) : (subH h ids).get k = if k ∈ ids then h.get k else none := by
  show (copyIds (emptyH h.n) h ids).get k = _
  rw [copyIds_get]; rfl

section
variable {h : H} {ids : List Nat}

def Pres (h : H) (ids : List Nat) : Prop := ∀ id ∈ ids, (h.get id).isSome = true ∧ id < h.n

theorem Pres.has (p : Pres h ids) {k : Nat} (hk : k ∈ ids) : ∃ v, h.get k = some v := Option.isSome_iff_exists.1 (p k hk).1
theorem Pres.sub (p : Pres h ids) {k : Nat} (hk : k ∈ ids) : ∃ v, (subH h ids).get k = some v ∧ h.get k = some v := by
  obtain ⟨v, hv⟩ := p.has hk
  exact ⟨v, by rw [subH_get, if_pos hk, hv], hv⟩

theorem merge_same (hlw : h.lw ≤ h.n) (p : Pres h ids) : mergeH h (subH h ids) ids = h := by
  have e : List.range' h.n ((subH h ids).n - h.n) = [] := by rw [subH_n, Nat.sub_self]; rfl
  unfold mergeH
  rw [e, List.append_nil]
  refine H.ext' ?_ (subH_n ..) ?_
  · exact copyIds_same ids h fun k hk => p.sub hk
  · show min h.lw (subH h ids).lw = h.lw
    rw [subH_lw]; omega

theorem merge_new (hlw : h.lw ≤ h.n) (p : Pres h ids) (o : AObj) : mergeH h ((subH h ids).new o) ids = h.new o := by
  have e : List.range' h.n (((subH h ids).new o).n - h.n) = [h.n] := by
    rw [H.n_new, subH_n, Nat.add_sub_cancel_left]; rfl
  unfold mergeH
  rw [e, copyIds_append]
  refine H.ext' ?_ (by show ((subH h ids).new o).n = _; simp [subH_n]) ?_
  · show (copyIds h ((subH h ids).new o) ids).m.put h.n (((subH h ids).new o).get h.n) = h.m.put h.n (some o)
    rw [H.get_new, subH_n, if_pos rfl, copyIds_same ids h fun k hk => ?_]
    obtain ⟨v, a, b⟩ := p.sub hk
    exact ⟨v, by rw [H.get_new, subH_n, if_neg (by have := (p k hk).2; omega)]; exact a, b⟩
  · show min h.lw ((subH h ids).new o).lw = _
    rw [H.lw_new, subH_lw, H.lw_new]; omega

theorem merge_set (hlw : h.lw ≤ h.n) (p : Pres h ids) {id : Nat} (hid : id ∈ ids) (o : AObj) : mergeH h ((subH h ids).set id o) ids = h.set id o := by
  have e : List.range' h.n (((subH h ids).set id o).n - h.n) = [] := by rw [H.n_set, subH_n, Nat.sub_self]; rfl
  unfold mergeH
  rw [e, List.append_nil]
  refine H.ext' ?_ (by show ((subH h ids).set id o).n = _; rw [H.n_set, subH_n, H.n_set]) ?_
  · refine copyIds_put (m0 := h.m) (by rw [H.get_set, if_pos rfl]) ids h (fun k hk hne => ?_) (.inl rfl) (.inl hid)
    obtain ⟨v, a, b⟩ := p.sub hk
    exact ⟨v, by rw [H.get_set, if_neg hne]; exact a, b⟩
  · show min h.lw ((subH h ids).set id o).lw = _
    rw [H.lw_set, subH_lw, H.lw_set]
    omega

theorem merge_del (hlw : h.lw ≤ h.n) (p : Pres h ids) {id : Nat} (hid : id ∈ ids) (o : AObj) : mergeH h (((subH h ids).del id).new o) ids = (h.del id).new o := by
  have e : List.range' h.n ((((subH h ids).del id).new o).n - h.n) = [h.n] := by
    rw [H.n_new, H.n_del, subH_n, Nat.add_sub_cancel_left]; rfl
  have hlt := (p id hid).2
  unfold mergeH
  rw [e, copyIds_append]
  refine H.ext' ?_ (by show (((subH h ids).del id).new o).n = _; rw [H.n_new, H.n_del, subH_n, H.n_new, H.n_del]) ?_
  · show (copyIds h (((subH h ids).del id).new o) ids).m.put h.n ((((subH h ids).del id).new o).get h.n) = (h.m.put id none).put h.n (some o)
    rw [H.get_new, H.n_del, subH_n, if_pos rfl, copyIds_put (m0 := h.m) (id := id) (o := none) (by rw [H.get_new, H.n_del, subH_n, if_neg (by omega), H.get_del, if_pos rfl]) ids h (fun k hk hne => ?_) (.inl rfl) (.inl hid)]
    obtain ⟨v, a, b⟩ := p.sub hk
    exact ⟨v, by rw [H.get_new, H.n_del, subH_n, if_neg (by have := (p k hk).2; omega), H.get_del, if_neg hne]; exact a, b⟩
  · show min h.lw (((subH h ids).del id).new o).lw = _
    rw [H.lw_new, H.lw_del, subH_lw, H.lw_new, H.lw_del]
    omega
end

theorem Pres.nil {h : H} : Pres h [] := fun _ hk => by cases hk

/-- What an operation does over some objects alone. -/
def Loc1 (Ty : Types) (FT : FunT) (ev : Operand → Option Value) (op : Op) (h : H) (v : Value) (h1 : H) (kd : Nat) (vs : List Value) : Prop :=
  ∃ ids h2, domOf ev op = some ids ∧ (∀ id ∈ ids, id ∈ idsV vs) ∧ aOp Ty FT ev op (subH h ids) = some (v, h2) ∧ mergeH h h2 ids = h1 ∧ (kd ≠ 3 → h2.lw = h.n) ∧ (kd = 0 ∨ kd = 2 → h2.n = h.n) ∧ (kd = 0 ∨ kd = 1 → ids = [])

theorem loc_pure {Ty : Types} {FT : FunT} {ev : Operand → Option Value} {op : Op} {h : H} {v : Value} {h1 : H} {kd : Nat} {vs : List Value} (hlw : h.lw ≤ h.n) (hd : domOf ev op = some []) (hp : ∀ g, aOp Ty FT ev op g = some (v, g)) (he : aOp Ty FT ev op h = some (v, h1)) (hk : kd ≠ 3) : Loc1 Ty FT ev op h v h1 kd vs := by
  rw [hp h] at he
  cases he
  exact ⟨[], subH h [], hd, fun _ hk => (by cases hk), hp _, merge_same hlw Pres.nil, fun _ => subH_lw .., fun _ => subH_n .., fun _ => rfl⟩

theorem loc_new {Ty : Types} {FT : FunT} {ev : Operand → Option Value} {op : Op} {h : H} {v : Value} {h1 : H} {vs : List Value} (hlw : h.lw ≤ h.n) (hd : domOf ev op = some []) (o : AObj) (u : Nat → Value) (hp : ∀ g : H, aOp Ty FT ev op g = some (u g.n, g.new o)) (he : aOp Ty FT ev op h = some (v, h1)) : Loc1 Ty FT ev op h v h1 1 vs := by
  rw [hp h] at he
  cases he
  exact ⟨[], (subH h []).new o, hd, fun _ hk => (by cases hk), by rw [hp, subH_n], merge_new hlw Pres.nil o, fun _ => by rw [H.lw_new, subH_lw], fun hh => (by rcases hh with hh | hh <;> cases hh), fun _ => rfl⟩

theorem loc_read {Ty : Types} {FT : FunT} {ev : Operand → Option Value} {op : Op} {h : H} {v : Value} {h1 : H} {vs : List Value} {ids : List Nat} (hlw : h.lw ≤ h.n) (hd : domOf ev op = some ids) (hs : ∀ id ∈ ids, id ∈ idsV vs) (hpr : Pres h (idsV vs)) (hh : h1 = h) (hp : aOp Ty FT ev op (subH h ids) = some (v, subH h ids)) : Loc1 Ty FT ev op h v h1 2 vs :=
  ⟨ids, subH h ids, hd, hs, hp, by rw [merge_same hlw fun id hi => hpr id (hs id hi)]; exact hh.symm, fun _ => subH_lw .., fun _ => subH_n .., fun hh => (by rcases hh with hh | hh <;> cases hh)⟩

theorem loc_set {Ty : Types} {FT : FunT} {ev : Operand → Option Value} {op : Op} {h : H} {v : Value} {vs : List Value} {ids : List Nat} (hlw : h.lw ≤ h.n) (hd : domOf ev op = some ids) (hs : ∀ id ∈ ids, id ∈ idsV vs) (hpr : Pres h (idsV vs)) {id : Nat} {o : AObj} (hid : id ∈ ids) (hp : aOp Ty FT ev op (subH h ids) = some (v, (subH h ids).set id o)) : Loc1 Ty FT ev op h v (h.set id o) 3 vs :=
  ⟨ids, _, hd, hs, hp, merge_set hlw (fun id hi => hpr id (hs id hi)) hid o, fun hh => absurd rfl hh, fun hh => (by rcases hh with hh | hh <;> cases hh), fun hh => (by rcases hh with hh | hh <;> cases hh)⟩

theorem loc_grow {Ty : Types} {FT : FunT} {ev : Operand → Option Value} {op : Op} {h : H} {v : Value} {vs : List Value} {ids : List Nat} (hlw : h.lw ≤ h.n) (hd : domOf ev op = some ids) (hs : ∀ id ∈ ids, id ∈ idsV vs) (hpr : Pres h (idsV vs)) {o : AObj} (hp : aOp Ty FT ev op (subH h ids) = some (v, (subH h ids).new o)) : Loc1 Ty FT ev op h v (h.new o) 3 vs :=
  ⟨ids, _, hd, hs, hp, merge_new hlw (fun id hi => hpr id (hs id hi)) o, fun hh => absurd rfl hh, fun hh => (by rcases hh with hh | hh <;> cases hh), fun hh => (by rcases hh with hh | hh <;> cases hh)⟩

theorem loc_move {Ty : Types} {FT : FunT} {ev : Operand → Option Value} {op : Op} {h : H} {v : Value} {vs : List Value} {ids : List Nat} (hlw : h.lw ≤ h.n) (hd : domOf ev op = some ids) (hs : ∀ id ∈ ids, id ∈ idsV vs) (hpr : Pres h (idsV vs)) {id : Nat} (hid : id ∈ ids) {o : AObj} (hp : aOp Ty FT ev op (subH h ids) = some (v, ((subH h ids).del id).new o)) : Loc1 Ty FT ev op h v ((h.del id).new o) 3 vs :=
  ⟨ids, _, hd, hs, hp, merge_del hlw (fun id hi => hpr id (hs id hi)) hid o, fun hh => absurd rfl hh, fun hh => (by rcases hh with hh | hh <;> cases hh), fun hh => (by rcases hh with hh | hh <;> cases hh)⟩

theorem loc_keep {Ty : Types} {FT : FunT} {ev : Operand → Option Value} {op : Op} {h : H} {v : Value} {vs : List Value} {ids : List Nat} (hlw : h.lw ≤ h.n) (hd : domOf ev op = some ids) (hs : ∀ id ∈ ids, id ∈ idsV vs) (hpr : Pres h (idsV vs)) (hp : aOp Ty FT ev op (subH h ids) = some (v, subH h ids)) : Loc1 Ty FT ev op h v h 3 vs :=
  ⟨ids, _, hd, hs, hp, merge_same hlw (fun id hi => hpr id (hs id hi)), fun hh => absurd rfl hh, fun hh => (by rcases hh with hh | hh <;> cases hh), fun hh => (by rcases hh with hh | hh <;> cases hh)⟩
end
end Go.Ab
